/- What strings.Builder needs: pointers seen through package unsafe, bytes as a string; calls without a body. -/
import Derived.Test.YtfndoonmgilklaaGreatDoorXOps9
import Derived.Lib.UnsafeStr
set_option linter.unusedSimpArgs false
set_option linter.unusedVariables false
namespace Go.Proofs.TX
open Go
section
variable {P : Program} {B : Env P} {dt : Bool} {s : St}
theorem wpS_shape {α : Type} {r : Nat} {o : Obj} (h : s.at r = some o) (k : Option (TypeId × Nat) → Sem α) (K : α → St → Prop) : wpS P dt (.shape r k) s K = wpS P dt (k (shapeOf o)) s K := by
  simp only [wpS, h, Option.some.injEq, exists_eq_left']
theorem wpS_shape' {r : Nat} {o : Obj} (h : s.at r = some o) (K : Option (TypeId × Nat) → St → Prop) : wpS P dt (shape r) s K = K (shapeOf o) s := wpS_shape h _ K
theorem wpS_viewAt {r : Nat} {c : Array Value} {e : TypeId} {fz : Nat × Nat} (h : s.at r = some (.cells c e fz)) (K : Option (Addr × TypeId) → St → Prop) : wpS P dt (viewAt r) s K = K none s := by
  simp [viewAt, wpS_bind', wpS_shape' h, shapeOf, wpS_pure]
theorem wpS_cellsIn {r : Nat} {c : Array Value} {e : TypeId} {fz : Nat × Nat} (h : s.at r = some (.cells c e fz)) (K : Option Nat → St → Prop) : wpS P dt (cellsIn r) s K = K (some c.size) s := by
  simp [cellsIn, wpS_bind', wpS_shape' h, shapeOf, wpS_pure, wpS_map]
theorem wpS_sizeOf {t : TypeId} {d : TypeInfo} (K : Nat → St → Prop) (h : P.info? t = some d) : wpS P dt (sizeOf t) s K = K d.size s := by
  simp only [sizeOf, wpS_bind', wpS_typeInfo _ h, wpS_pure]
theorem wpS_seenAt {a : Addr} {c : Array Value} {e : TypeId} {fz : Nat × Nat} (h : s.at a.block = some (.cells c e fz)) (K : Addr → St → Prop) : wpS P dt (Conv.seenAt a) s K = K a s := by
  simp [Conv.seenAt, wpS_bind', wpS_viewAt h, wpS_pure]
theorem wpS_to_unsafe {src dst t e : TypeId} {j : TypeInfo} {c : Array Value} {fz : Nat × Nat} (a : Addr) (hs : P.underlying src = some (.pointer t)) (hd : P.underlying dst = some .unsafePointer) (ht : P.info? t = some j) (hj : j.size ≠ 0)
    (h : s.at a.block = some (.cells c e fz)) (hoff : a.off < c.size) (K : Value → St → Prop) : wpS P dt (convert src dst (.pointer (some a))) s K = K (.pointer (some a)) s := by
  have h1 : ¬ (c.size ≤ a.off) := by omega
  simp [convert, wpS_bind', wpS_underlying _ hs, wpS_underlying _ hd, Conv.unsafePointer, wpS_seenAt h, wpS_cellsIn h, wpS_sizeOf _ ht, hj, h1, wpS_pure]
theorem wpS_from_unsafe {src dst u e : TypeId} {j : TypeInfo} {c : Array Value} {fz : Nat × Nat} (a : Addr) (hs : P.underlying src = some .unsafePointer) (hd : P.underlying dst = some (.pointer u)) (hu : P.info? u = some j)
    (h : s.at a.block = some (.cells c e fz)) (hl : liesAt P P.depth e (c.size / P.cellsOf e) a.off u 1 = true) (K : Value → St → Prop) : wpS P dt (convert src dst (.pointer (some a))) s K = K (.pointer (some a)) s := by
  simp [convert, wpS_bind', wpS_underlying _ hs, wpS_underlying _ hd, Conv.unsafePointer, wpS_seenAt h, wpS_sizeOf _ hu, variablesAt, wpS_program, wpS_shape' h, shapeOf, hl, wpS_pure]
theorem XCallV_extern {f : FuncId} {fn : Func} {e : Array Value → Sem Value} (hf : P.funcs[f]? = some fn) (hname : (fn.name == "runtime.NumGoroutine") = false)
    (hb : fn.body.isNone = true) (hn : Extern.findNext fn = none) (he : Extern.find fn = some e) (first captured : Array Value) (args : List Value) (K : Kp (Value → St → Prop)) :
    XCallV P B dt (.func (.func f) first captured) args s K = wpS P dt (e (first ++ args.toArray ++ captured)) s K.K := by
  have h1 : fn.name ≠ "runtime.NumGoroutine" := by simpa using hname
  have h2 : fn.body = none := by simpa using hb
  simp [XCallV, callFunc, hf, h1, h2, hn, he, mark, wpS_bind', wpS_program, wpS, wpS_map, wpS_pure, next]
theorem wpS_loadBytes : ∀ (l : List UInt8) (a : Addr) (acc : ByteArray) (K : ByteArray → St → Prop), (∀ j x, l[j]? = some x → s.ld (a.add j) = some (.int .u8 x.toNat)) →
    wpS P dt (loadBytes a acc l.length) s K = K ⟨acc.data ++ l.toArray⟩ s
  | [], a, acc, K, _ => by simp [loadBytes, wpS_pure]
  | x :: l, a, acc, K, h => by
    have h0 : s.ld a = some (.int .u8 x.toNat) := by
      have := h 0 x rfl
      have e : a.add 0 = a := by unfold Addr.add; simp
      rw [e] at this; exact this
    have ih := wpS_loadBytes l (a.add 1) (acc.push x) K (fun j y hy => by
      have := h (j + 1) y (by simpa using hy)
      have e : (a.add 1).add j = a.add (j + 1) := by unfold Addr.add; split <;> simp <;> omega
      rw [e]; exact this)
    have hx : ((x.toNat : Int)).toNat.toUInt8 = x := by simp
    simp only [List.length_cons, loadBytes, wpS_bind', load, wpS, h0, Option.some.injEq, exists_eq_left', wpS_pure', hx, ih]
    have : (acc.push x).data ++ l.toArray = acc.data ++ (x :: l).toArray := by simp [ByteArray.push]
    rw [this]
theorem XBuiltin_sliceData (ts : Array TypeId) (ty : TypeId) (cs : List Bool) (a : Option Addr) (n c : Nat) (K : Kp (Value → St → Prop)) (h : a = none ∨ c ≠ 0) :
    XBuiltin P B dt .unsafeSliceData ts ty cs [.slice a n c] s K = K.K (.pointer a) s := by
  rcases h with rfl | h
  · rfl
  · cases a with
    | none => rfl
    | some a =>
      obtain ⟨k, rfl⟩ : ∃ k, c = k + 1 := ⟨c - 1, by omega⟩
      rfl
theorem XBuiltin_usNone (pt it ty : TypeId) (cs : List Bool) (p : Option Addr) (K : Kp (Value → St → Prop)) : XBuiltin P B dt .unsafeString #[pt, it] ty cs [.pointer p, .int .i64 0] s K = K.K (.string .empty) s := by
  have hmax : IntKind.i64.max = 9223372036854775807 := rfl
  cases p with
  | none =>
    have hdef : builtin .unsafeString #[pt, it] ty cs.toArray #[.pointer none, .int .i64 0] = (do pure (.value (← (do
          let n ← asInt (.int .i64 0)
          if n < 0 then runtimePanic (.error "unsafe.String: len out of range")
          if n > IntKind.i64.max then unsupported (.unsafePointer "String: a length above the largest int")
          if n = 0 then pure (.string .empty)
          else runtimePanic (.error "unsafe.String: ptr is nil and len is not zero"))))) := rfl
    simp [XBuiltin, hdef, asInt, asIntOf, hmax, wpS_bind', wpS_pure, next, wpS_map]
  | some a =>
    have hdef : builtin .unsafeString #[pt, it] ty cs.toArray #[.pointer (some a), .int .i64 0] = (do pure (.value (← (do
          let n ← asInt (.int .i64 0)
          if n < 0 then runtimePanic (.error "unsafe.String: len out of range")
          if n > IntKind.i64.max then unsupported (.unsafePointer "String: a length above the largest int")
          if n = 0 then pure (.string .empty)
          else if ← variablesAt a (← elemOf pt) n.toNat then do
            let s ← loadBytes a .empty n.toNat
            freeze a n.toNat
            pure (.string s)
          else unsupported (.unsafePointer "String: not so many bytes at ptr"))))) := rfl
    simp [XBuiltin, hdef, asInt, asIntOf, hmax, wpS_bind', wpS_pure, next, wpS_map]
theorem XBuiltin_usRow (pt it ty e : TypeId) (cs : List Bool) (hp : P.underlying pt = some (.pointer e)) (hc : P.cellsOf e = 1) (g : Nat) (l : List UInt8) (rest : List Value) (h0 : l ≠ []) (h63 : l.length ≤ 9223372036854775807)
    (hb : s.h g = some (.cells (byteVals l ++ rest).toArray e (0, 0))) (K : Kp (Value → St → Prop)) :
    XBuiltin P B dt .unsafeString #[pt, it] ty cs [.pointer (some ⟨g, 0, none⟩), .int .i64 l.length] s K = K.K (.string ⟨l.toArray⟩) (s.upd g (.cells (byteVals l ++ rest).toArray e (0, l.length))) := by
  have hl : l.length ≠ 0 := by simpa using h0
  have hbv : (byteVals l).length = l.length := by simp [byteVals]
  have hsz : ((byteVals l ++ rest).toArray).size = l.length + rest.length := by simp [hbv]
  have hcell : ∀ j x, l[j]? = some x → s.ld ((⟨g, 0, none⟩ : Addr).add j) = some (.int .u8 x.toNat) := by
    intro j x hx
    have hj := (List.getElem?_eq_some_iff.1 hx).1
    rw [add_mk, St.ld, at_of_h hb]
    simp only [cellOf_cells, List.getElem?_toArray, Nat.zero_add]
    rw [List.getElem?_append_left (by omega)]
    simp [byteVals, hx]
  have hlb := fun K => wpS_loadBytes (P := P) (dt := dt) l ⟨g, 0, none⟩ .empty K hcell
  have hlies := Lib.liesAt_bytes (P := P) hc (((byteVals l).length + rest.length) / P.cellsOf e) l.length (by rw [hc, hbv]; simp)
  have h63' : ¬ (9223372036854775807 : Int) < (l.length : Int) := by omega
  have hdef : builtin .unsafeString #[pt, it] ty cs.toArray #[.pointer (some ⟨g, 0, none⟩), .int .i64 l.length] = (do pure (.value (← (do
        let n ← asInt (.int .i64 l.length)
        if n < 0 then runtimePanic (.error "unsafe.String: len out of range")
        if n > IntKind.i64.max then unsupported (.unsafePointer "String: a length above the largest int")
        if n = 0 then pure (.string .empty)
        else if ← variablesAt ⟨g, 0, none⟩ (← elemOf pt) n.toNat then do
          let s ← loadBytes ⟨g, 0, none⟩ .empty n.toNat
          freeze ⟨g, 0, none⟩ n.toNat
          pure (.string s)
        else unsupported (.unsafePointer "String: not so many bytes at ptr"))))) := rfl
  have hmax : IntKind.i64.max = 9223372036854775807 := rfl
  have hneg : ¬ (l.length : Int) < 0 := by omega
  have hfz : ∀ (K : Unit → St → Prop), wpS P dt (freeze ⟨g, 0, none⟩ l.length) s K = K () (s.upd g (.cells (byteVals l ++ rest).toArray e (0, l.length))) := by
    intro K
    simp only [freeze, wpS, hl, if_false, hb]
    rw [eq_iff_iff]
    constructor
    · rintro ⟨c, T, lo, hi, h1, h2⟩
      cases h1
      simpa using h2
    · intro h
      exact ⟨_, _, 0, 0, rfl, by simpa using h⟩
  have hat : s.at g = some (.cells (byteVals l ++ rest).toArray e (0, 0)) := at_of_h hb
  simp only [XBuiltin]
  rw [show ([.pointer (some ⟨g, 0, none⟩), .int .i64 l.length] : List Value).toArray = #[.pointer (some ⟨g, 0, none⟩), .int .i64 l.length] from rfl, hdef]
  simp [asInt, asIntOf, hmax, h63', hneg, hl, wpS_bind', wpS_pure, next, wpS_map, variablesAt, elemOf, wpS_underlying _ hp, wpS_program, wpS_shape' hat, shapeOf, hlies, hlb, hfz]
theorem XRaw_ptr_same (neg : Bool) {tp te : TypeId} {j : TypeInfo} (hp : P.underlying tp = some (.pointer te)) (hte : P.info? te = some j) (x y : Operand) (a : Addr) (K : Kp (Value → St → Prop)) :
    XRaw P dt (boolOp neg) tp x y (.pointer (some a)) (.pointer (some a)) s K = K.K (.bool (opOf neg true)) s := by
  refine XBin_gen neg (bin_ptr neg tp _ _) (guard_ptr neg tp x y _ _) (fun s K => ?_)
  have h : ∀ d : Nat, wpS P dt (Op.equalIn (d + 1) tp (.pointer (some a)) (.pointer (some a))) s K = K true s := fun d => by
    simp [Op.equalIn, wpS_bind', wpS_underlying _ hp, sizeOf, wpS_typeInfo _ hte, sameAddr, wpS_pure, samePointer, wpS_map]
  exact h 9999
/-- a string behind a row of bytes -/
theorem append_bytes {t : St} {lo : Nat} {av : List Nat} {T : TypeId} {base : Option Addr} {n c : Nat} {l acc : List UInt8} {K : Value → St → Prop}
    (hv : SlH t lo av T 1 (.slice base n c) ((byteVals acc).map fun v => [v])) (hlo : lo ≤ t.n) (hav : ∀ c ∈ av, c < t.n) (hb : acc.length + l.length ≤ 140737488355328)
    (hK : ∀ v' t', SlH t' lo av T 1 v' ((byteVals (acc ++ l)).map fun v => [v]) → Keep lo av t t' → K v' t') : XApA false T [.int .u8 0] 1 1 base n c l.length (.string ⟨l.toArray⟩) t ⟨K, .mk⟩ := by
  have hfl : ∀ l : List UInt8, ((byteVals l).map fun v => [v]).flatten = byteVals l := by
    intro l; induction l with
    | nil => rfl
    | cons x l ih => simp only [byteVals, List.map_cons, List.flatten_cons, List.singleton_append] at ih ⊢; rw [ih]
  have hln : ∀ l : List UInt8, ((byteVals l).map fun v => [v]).length = l.length := by intro l; simp [byteVals]
  have hbl : ∀ l : List UInt8, (byteVals l).length = l.length := by intro l; simp [byteVals]
  have hap : ∀ a b : List UInt8, byteVals (a ++ b) = byteVals a ++ byteVals b := by intro a b; simp [byteVals]
  have hone : ∀ v ∈ byteVals l, oneCell v = true := by
    intro v hv; obtain ⟨x, _, rfl⟩ := List.mem_map.1 hv; rfl
  have hrows : ∀ l : List UInt8, ∀ r ∈ (byteVals l).map (fun v => [v]), r.length = 1 := by
    intro l r hr; obtain ⟨x, _, rfl⟩ := List.mem_map.1 hr; rfl
  have hrd : rdS t 1 (.string ⟨l.toArray⟩) = some (byteVals l) := by rw [rdS_str]
  unfold XApA
  rcases hv with ⟨h0, e⟩ | ⟨b, c', rest, e, hlb, hbn, hbav, hcells, hlen, hrest, hrw⟩
  · cases e
    have h0 : acc = [] := by
      cases acc with
      | nil => rfl
      | cons x a => simp [byteVals] at h0
    subst h0
    constructor
    · intro hle
      have : l = [] := List.length_eq_zero_iff.1 (by omega)
      subst this
      simp only [hrd, XLi_some]
      exact hK _ _ (.inl ⟨rfl, rfl⟩) ⟨rfl, Nat.le_refl _, fun _ _ => rfl, fun h => h⟩
    · intro hlt
      refine ⟨?_, rfl, ?_⟩
      · have h2 := nextslicecap_le (need := 0 + l.length) (old := 0) hlt
        simp only [List.length_nil, Nat.zero_add, Nat.mul_one] at hb h2 ⊢; omega
      · simp only [rdS_none, hrd, XLi_some]
        intro r _
        refine hK _ _ (.inr ⟨t.n, 0 + l.length + r, rep [.int .u8 0] r, ?_, hlo, by simp [new_n], fun h => Nat.lt_irrefl _ (hav _ h), ?_, ?_, ?_, hrows _⟩) ⟨rfl, by simp [new_n], ?_, fun h => new_wf h _⟩
        · rw [hln]; simp
        · rw [new_h_self, hfl]; simp
        · rw [hln]; simp
        · rw [rep_length, hln]; simp
        · intro c hc
          rcases hc with hc | hc
          · exact new_h_ne _ (by omega)
          · exact new_h_ne _ (by have := hav c hc; omega)
  · cases e
    rw [hln] at hlen hrest ⊢
    rw [hfl] at hcells
    constructor
    · intro hle
      simp only [hrd, XLi_some]
      have hoff : (⟨b, 0, none⟩ : Addr).add (acc.length * 1) = ⟨b, acc.length, none⟩ := by rw [add_mk]; simp
      rw [hoff]
      by_cases hl0 : l = []
      · subst hl0
        refine hK _ _ (.inr ⟨b, c, rest, by rw [hln]; simp, hlb, hbn, hbav, ?_, by rw [hln]; simpa using hlen, by rw [hln]; simpa using hrest, hrows _⟩) ⟨rfl, Nat.le_refl _, fun _ _ => rfl, fun h => h⟩
        rw [hfl, List.append_nil]; exact hcells
      · rw [XSto_cells (a := ⟨b, acc.length, none⟩) (T := T) rfl _ (byteVals l) 0 t (byteVals acc ++ rest) hcells (by simp only [List.length_append, hbl, hrest]; omega) hone]
        have hne : byteVals l ≠ [] := by cases l <;> simp_all [byteVals]
        simp only [hne, if_false, Nat.add_zero]
        have hspl : spl (byteVals acc ++ rest) acc.length (byteVals l) = byteVals (acc ++ l) ++ rest.drop l.length := by
          unfold spl
          rw [← hbl acc, List.take_left', List.drop_append, List.drop_of_length_le (by omega), hap]
          · have : (byteVals acc).length + (byteVals l).length - (byteVals acc).length = l.length := by rw [hbl l]; omega
            rw [this]; simp [List.append_assoc]
          · rfl
        rw [hspl]
        refine hK _ _ (.inr ⟨b, c, rest.drop l.length, by rw [hln]; simp, hlb, hbn, hbav, ?_, by rw [hln]; simpa using hle, ?_, hrows _⟩) ⟨rfl, Nat.le_refl _, ?_, fun h => upd_wf h hcells _⟩
        · rw [hfl]; exact upd_h_self _ _
        · rw [List.length_drop, hrest, hln, List.length_append]; omega
        · intro e he
          rcases he with he | he
          · exact upd_h_ne _ (by omega)
          · exact upd_h_ne _ (fun x => hbav (x ▸ he))
    · intro hlt
      refine ⟨?_, rfl, ?_⟩
      · have h2 := nextslicecap_le (need := acc.length + l.length) (old := c) hlt
        simp only [Nat.mul_one]; omega
      · have hold : rdS t 1 (.slice (some ⟨b, 0, none⟩) acc.length c) = some (byteVals acc) := by
          rw [rdS_some, ldN_cells (c := byteVals acc ++ rest) (at_of_h hcells) rfl (acc.length * 1) 0 (by simp only [Nat.zero_add, List.length_append, hbl]; omega)]
          simp [← hbl]
        simp only [hold, hrd, XLi_some]
        intro r _
        refine hK _ _ (.inr ⟨t.n, acc.length + l.length + r, rep [.int .u8 0] r, ?_, hlo, by simp [new_n], fun h => Nat.lt_irrefl _ (hav _ h), ?_, ?_, ?_, hrows _⟩) ⟨rfl, by simp [new_n], ?_, fun h => new_wf h _⟩
        · rw [hln]; simp
        · rw [new_h_self, hfl, hap]
        · rw [hln]; simp
        · rw [rep_length, hln]; simp
        · intro c hc
          rcases hc with hc | hc
          · exact new_h_ne _ (by omega)
          · exact new_h_ne _ (by have := hav c hc; omega)
end
end Go.Proofs.TX
