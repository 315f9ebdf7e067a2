/- The operations' rules, sixth part: append, copy. -/
import Derived.Test.YtfndoonmgilklaaGreatDoorXOps5
set_option linter.unusedSimpArgs false
set_option linter.unusedVariables false
namespace Go.Proofs.TX
open Go
theorem wpS_nothing {P : Program} {dt : Bool} {α : Type} (m : Sem α) : ∀ (s : St), wpS P dt m s (fun _ _ => False) = False := by
  induction m with
  | pure a => intro s; rfl
  | load m a k ih => intro s; simp only [wpS, ih, and_false, exists_false]
  | store m a v k ih => intro s; simp only [wpS, ih, and_false, exists_false]
  | new o k ih => intro s; simp only [wpS, ih]
  | shape r k ih => intro s; simp only [wpS, ih, and_false, exists_false]
  | freeze a n k ih => intro s; simp only [wpS, ih, and_false, exists_false, ite_self]
  | frozen a k ih => intro s; simp only [wpS, ih, and_false, exists_false]
  | getObj r k ih => intro s; simp only [wpS, ih, and_false, exists_false]
  | setObj r o k ih => intro s; simp only [wpS, ih, and_false, exists_false]
  | choose q k ih =>
    intro s; simp only [wpS, ih]
    cases q.forced <;> simp
  | sys c k => intro s; rfl
  | program k ih => intro s; simp only [wpS, ih]
  | mark m k ih => intro s; simp only [wpS, ih]
  | halt h => intro s; rfl
section
variable {P : Program} {dt : Bool} {B : Env P} {ρ : Operand → Value} {s : St} {K : Kp (Value → St → Prop)} {dst : Option Tmp} {ty : TypeId} {pos : String} {af : Array Edge} {g : Option (Nat × Bool)}
def byteVals (b : List UInt8) : List Value := b.map fun b => Value.int .u8 b.toNat
/-- the cells of a slice or a string -/
def rdS (s : St) (k : Nat) : Value → Option (List Value)
  | .slice none _ _ => some []
  | .slice (some a) n _ => ldN s a 0 (n * k)
  | .string b => some (byteVals b.data.toList)
  | _ => none
@[go_sem] theorem rdS_none (k n c : Nat) : rdS s k (.slice none n c) = some [] := rfl
theorem rdS_some (k n c : Nat) (a : Addr) : rdS s k (.slice (some a) n c) = ldN s a 0 (n * k) := rfl
@[go_sem] theorem rdS_str (k : Nat) (b : ByteArray) : rdS s k (.string b) = some (byteVals b.data.toList) := rfl
def lenV : Value → Option Nat
  | .slice _ n _ => some n
  | .string b => some b.size
  | _ => none
def XLi (o : Option (List Value)) (K : Kp (List Value → Prop)) : Prop := match o with | some vs => K vs | none => False
@[go_sem ↓] theorem XLi_some (vs : List Value) (K : Kp (List Value → Prop)) : XLi (some vs) K = K vs := rfl
theorem wpS_firstCells {k n : Nat} {v : Value} (hn : lenV v = some n) (K : Array Value → St → Prop) : wpS P dt (Builtin.firstCells k n v) s K = XLi (rdS s k v) ⟨fun cs => K cs.toArray s, .mk⟩ := by
  cases v with
  | slice a m c =>
    cases hn
    cases a with
    | none => rfl
    | some a =>
      simp only [Builtin.firstCells, loadCells, rdS]
      rw [show (#[] : Array Value) = ([] : List Value).toArray from rfl, wpS_loadCellsFrom]
      cases ldN s a 0 (n * k) <;> simp [XLs, XLi]
  | string b =>
    simp only [lenV, Option.some.injEq] at hn
    subst hn
    simp only [Builtin.firstCells, wpS_pure, rdS, XLi, byteVals]
    congr 1
    have : (b.extract 0 b.size).data = b.data := by
      rw [ByteArray.data_extract]; exact Array.extract_size
    rw [this]; apply Array.ext'; simp
  | _ => cases hn
/-- an append's element type, its zero cells, how many cells, how many bytes -/
def apSpec (P : Program) (t : TypeId) : Option (TypeId × List Value × Nat × Nat) := (sspec P t).bind fun (e, z, k) => (P.info? e).bind fun i => if i.bytes = 0 then none else some (e, z, k, i.bytes)
def notInt (P : Program) (t : TypeId) : Bool := match P.underlying t with
  | some (.int _) => false
  | some _ => true
  | none => false
/-- more room than is needed -/
def CapOk (need r : Nat) : Prop := ∃ t, r = t % (2 ^ 63 - need)
def XApA (dt : Bool) (e : TypeId) (z : List Value) (k bytes : Nat) (base : Option Addr) (n c m : Nat) (x : Value) (s : St) (K : Kp (Value → St → Prop)) : Prop :=
  (n + m ≤ c → XLi (rdS s k x) ⟨fun news => match base with
      | some a => XSto s (a.add (n * k)) news 0 ⟨fun s => K (.slice (some a) (n + m) c) s, .mk⟩
      | none => K (.slice none (n + m) c) s, .mk⟩) ∧
  (c < n + m → Builtin.nextslicecap (n + m) c * bytes ≤ 2 ^ 48 ∧ dt = false ∧ XLi (rdS s k (.slice base n c)) ⟨fun old => XLi (rdS s k x) ⟨fun news =>
      ∀ r, CapOk (n + m) r → K (.slice (some ⟨s.n, 0, none⟩) (n + m) (n + m + r)) (s.new (.cells (old ++ news ++ rep z r).toArray e)), .mk⟩, .mk⟩)
def XAppend (P : Program) (B : Env P) (dt : Bool) (sp : Option (TypeId × List Value × Nat × Nat)) (ni : Bool) (t t2 ty : TypeId) (cs : List Bool) (base : Option Addr) (n c : Nat) (x : Value) (s : St) (K : Kp (Value → St → Prop)) : Prop := match sp, ni, lenV x with
  | some (e, z, k, bytes), true, some m => XApA dt e z k bytes base n c m x s K
  | _, _, _ => wpS P dt (builtin .append #[t, t2] ty cs.toArray #[.slice base n c, x]) s (next P B dt K.K)
@[go_sem] theorem lenV_slice (a : Option Addr) (n c : Nat) : lenV (.slice a n c) = some n := rfl
@[go_sem] theorem lenV_str (b : ByteArray) : lenV (.string b) = some b.size := rfl
@[go_sem] theorem XAppend_some (e : TypeId) (z : List Value) (k bytes m : Nat) (t t2 ty : TypeId) (cs : List Bool) (base : Option Addr) (n c : Nat) (a : Option Addr) (c' : Nat) :
  XAppend P B dt (some (e, z, k, bytes)) true t t2 ty cs base n c (.slice a m c') s K = XApA dt e z k bytes base n c m (.slice a m c') s K := rfl
@[go_sem] theorem XAppend_str (e : TypeId) (z : List Value) (k bytes : Nat) (t t2 ty : TypeId) (cs : List Bool) (base : Option Addr) (n c : Nat) (b : ByteArray) :
  XAppend P B dt (some (e, z, k, bytes)) true t t2 ty cs base n c (.string b) s K = XApA dt e z k bytes base n c b.size (.string b) s K := rfl
@[go_sem] theorem XBuiltin_append (t t2 : TypeId) (cs : List Bool) (base : Option Addr) (n c : Nat) (x : Value) : XBuiltin P B dt .append #[t, t2] ty cs [.slice base n c, x] s K =
    XAppend P B dt (apSpec P t) (notInt P t2) t t2 ty cs base n c x s K := by
  unfold XAppend
  split
  · rename_i e z k bytes m hsp hni hm
    unfold apSpec at hsp
    cases hss : sspec P t with
    | none => simp [hss] at hsp
    | some q =>
      obtain ⟨e', z', k'⟩ := q
      simp only [hss, Option.bind_some] at hsp
      obtain ⟨hu, i, hi, hik, hz, hzl, hk⟩ := sspec_elem hss
      simp only [hi, Option.bind_some] at hsp
      split at hsp
      · cases hsp
      · rename_i hb
        simp only [Option.some.injEq, Prod.mk.injEq] at hsp
        obtain ⟨rfl, rfl, rfl, rfl⟩ := hsp
        obtain ⟨v, hv, hK⟩ := zero_val (dt := dt) hz
        have hun : ∃ d2, P.underlying t2 = some d2 ∧ ∀ k, d2 ≠ .int k := by
          unfold notInt at hni
          split at hni <;> first | (cases hni; done) | exact ⟨_, by assumption, by assumption⟩
        obtain ⟨d2, hu2, hd2⟩ := hun
        have hx : (d2 matches .int _) = false := by cases d2 <;> first | rfl | exact absurd rfl (hd2 _)
        have hlen : ∀ (K : Nat → St → Prop) s, wpS P dt (Builtin.lenOf x) s K = K m s := by
          intro K s; cases x <;> simp [lenV] at hm <;> subst hm <;> rfl
        simp only [XBuiltin, builtin, wpS_bind', wpS_pure, next, Builtin.append_, List.getElem?_toArray, List.getElem?_cons_zero, List.getElem?_cons_succ, wpS_underlying _ hu, sizeOf, wpS_typeInfo _ hi, wpS_underlying _ hu2, hx, Bool.false_eq_true, if_false, hlen, Bool.not_false, if_true]
        rw [wpS_ite]
        unfold XApA
        by_cases hnc : n + m ≤ c
        · have hnc' : ¬ (c < n + m) := by omega
          simp only [hnc, hnc', if_true, true_implies, false_implies, and_true]
          simp only [wpS_bind', wpS_firstCells hm, hik]
          cases hrd : rdS s k' x with
          | none => simp [XLi]
          | some news =>
            simp only [XLi]
            cases base with
            | none => simp [wpS_pure]
            | some a => simp only [wpS_bind', wpS_storeCells, wpS_pure]
        · have hnc' : c < n + m := by omega
          simp only [hnc, hnc', if_false, true_implies, false_implies, true_and]
          rw [eq_iff_iff]
          have h0 : ¬ ((↑(n + m) : Int) > IntKind.i64.max ∧ (False ∨ i.bytes = 0)) := by simp [hb]
          simp only [wpS_bind', wpS_typeInfo _ hi, wpS_ite, if_neg h0]
          by_cases hcap : Builtin.nextslicecap (n + m) c * i.bytes ≤ 2 ^ 48
          · have hcap' : ¬ (Builtin.nextslicecap (n + m) c * i.bytes > 2 ^ 48) := by omega
            simp only [if_neg hcap', hcap, true_and, choose, wpS, Question.forced, Bool.false_eq_true, false_implies, true_implies, wpS_bind', wpS_typeInfo _ hi]
            refine and_congr_right' ?_
            have hask : ∀ (b : Nat) (K : Unit → St → Prop) (s : St), wpS P dt (askRoom b) s K = K () s := by
              intro b K s; unfold askRoom; split <;> rfl
            have hold : lenV (.slice base n c) = some n := rfl
            simp only [hask, wpS_firstCells hold, wpS_firstCells hm, hik, hK]
            cases rdS s k' (.slice base n c) with
            | none => simp [XLi]
            | some old =>
              cases rdS s k' x with
              | none => simp [XLi]
              | some news =>
                have hz : ∀ r, Builtin.zeroCells v.cells r = (rep z' r).toArray := by
                  intro r
                  rw [← tile_eq z' (by omega) r, hv]
                  simp only [Builtin.zeroCells, List.size_toArray]
                simp only [XLi, newRow, newObj, wpS_bind', wpS_map, wpS_new, wpS_pure', wpS_pure, Question.cut, Nat.add_sub_cancel_left, hz, CapOk]
                constructor
                · rintro h r ⟨t, rfl⟩
                  simpa using h t
                · intro h t
                  simpa using h _ ⟨t, rfl⟩
          · have hcap' : Builtin.nextslicecap (n + m) c * i.bytes > 2 ^ 48 := by omega
            simp only [if_pos hcap', hcap, false_and]
            refine iff_of_eq ((congrArg (fun k => wpS P dt _ s k) ?_).trans (wpS_nothing _ s))
            funext b s
            cases b <;> simp [unsupported, wpS, mark]
  · rfl

/-! ### copy -/
/-- the first n elements -/
def rdN (s : St) (k n : Nat) : Value → Option (List Value)
  | .slice none _ _ => some []
  | .slice (some a) _ _ => ldN s a 0 (n * k)
  | .string b => some (byteVals (b.data.toList.take n))
  | _ => none
theorem wpS_firstN {k n : Nat} (v : Value) (K : Array Value → St → Prop) : wpS P dt (Builtin.firstCells k n v) s K = XLi (rdN s k n v) ⟨fun cs => K cs.toArray s, .mk⟩ := by
  cases v with
  | slice a m c =>
    cases a with
    | none => rfl
    | some a =>
      simp only [Builtin.firstCells, loadCells, rdN]
      rw [show (#[] : Array Value) = ([] : List Value).toArray from rfl, wpS_loadCellsFrom]
      cases ldN s a 0 (n * k) <;> simp [XLs, XLi]
  | string b =>
    simp only [Builtin.firstCells, wpS_pure, rdN, XLi, byteVals]
    congr 1
    apply Array.ext'; simp [List.extract_eq_take_drop]
  | _ => simp [Builtin.firstCells, stuck, wpS, rdN, XLi]
def cpK (P : Program) (t : TypeId) : Option Nat := match P.underlying t with
  | some (.slice e) => (P.info? e).map (·.size)
  | _ => none
def XCopy (P : Program) (B : Env P) (dt : Bool) (k : Option Nat) (t t2 ty : TypeId) (cs : List Bool) (base : Option Addr) (n c : Nat) (x : Value) (s : St) (K : Kp (Value → St → Prop)) : Prop := match k, lenV x with
  | some k, some m => XLi (rdN s k (min m n) x) ⟨fun news => match base with
      | some a => XSto s a news 0 ⟨fun s => K (.int .i64 (min m n : Nat)) s, .mk⟩
      | none => K (.int .i64 (min m n : Nat)) s, .mk⟩
  | _, _ => wpS P dt (builtin .copy #[t, t2] ty cs.toArray #[.slice base n c, x]) s (next P B dt K.K)
@[go_sem] theorem XCopy_some (k m : Nat) (t t2 ty : TypeId) (cs : List Bool) (b : Addr) (n c : Nat) (a : Option Addr) (c' : Nat) :
  XCopy P B dt (some k) t t2 ty cs (some b) n c (.slice a m c') s K = XLi (rdN s k (min m n) (.slice a m c')) ⟨fun news => XSto s b news 0 ⟨fun s => K (.int .i64 (min m n : Nat)) s, .mk⟩, .mk⟩ := rfl
@[go_sem] theorem XBuiltin_copy (t t2 : TypeId) (cs : List Bool) (base : Option Addr) (n c : Nat) (x : Value) : XBuiltin P B dt .copy #[t, t2] ty cs [.slice base n c, x] s K =
    XCopy P B dt (cpK P t) t t2 ty cs base n c x s K := by
  unfold XCopy
  split
  · rename_i k m hk hm
    unfold cpK at hk
    split at hk
    · rename_i e hu
      cases hi : P.info? e with
      | none => simp [hi] at hk
      | some i =>
        simp only [hi, Option.map_some, Option.some.injEq] at hk
        have hlen : ∀ (K : Nat → St → Prop) s, wpS P dt (Builtin.lenOf x) s K = K m s := by
          intro K s; cases x <;> simp [lenV] at hm <;> subst hm <;> rfl
        simp only [XBuiltin, builtin, wpS_bind', wpS_pure, next, Builtin.copy_, List.getElem?_toArray, List.getElem?_cons_zero, List.getElem?_cons_succ, wpS_underlying _ hu, sizeOf, wpS_typeInfo _ hi, hlen, wpS_firstN, hk]
        have e1 : Nat.min m n = min m n := rfl
        rw [e1]
        cases rdN s k (min m n) x with
        | none => simp [XLi]
        | some news =>
          cases base with
          | none => simp [XLi, wpS_pure, goInt]
          | some a => simp only [XLi, wpS_bind', wpS_storeCells, wpS_pure, goInt]
    · cases hk
  · rfl

/-! ### many cells at once -/
def spl (cs : List Value) (off : Nat) (vs : List Value) : List Value := cs.take off ++ vs ++ cs.drop (off + vs.length)
theorem spl_nil (cs : List Value) (off : Nat) : spl cs off [] = cs := by simp [spl]
theorem spl_length (cs : List Value) (off : Nat) (vs : List Value) (h : off + vs.length ≤ cs.length) : (spl cs off vs).length = cs.length := by simp [spl]; omega
theorem spl_cons (cs : List Value) (off : Nat) (v : Value) (vs : List Value) (h : off < cs.length) : spl (cs.set off v) (off + 1) vs = spl cs off (v :: vs) := by
  simp only [spl, List.length_cons]
  rw [show off + 1 + vs.length = off + (vs.length + 1) by omega, List.set_eq_take_append_cons_drop, if_pos h]
  have h1 : (cs.take off ++ v :: cs.drop (off + 1)).take (off + 1) = cs.take off ++ [v] := by
    rw [List.take_append, List.take_of_length_le (by simp; omega)]
    simp [Nat.min_eq_left (Nat.le_of_lt h)]
  have h2 : (cs.take off ++ v :: cs.drop (off + 1)).drop (off + (vs.length + 1)) = cs.drop (off + (vs.length + 1)) := by
    rw [List.drop_append, List.drop_of_length_le (by simp; omega)]
    simp only [List.length_take, Nat.min_eq_left (Nat.le_of_lt h), List.nil_append]
    rw [show off + (vs.length + 1) - off = vs.length + 1 by omega, List.drop_succ_cons, List.drop_drop]
    congr 1; omega
  rw [h1, h2]; simp
theorem add_spot {a : Addr} (h : a.spot = none) (k : Nat) : a.add k = ⟨a.block, a.off + k, none⟩ := by
  obtain ⟨b, o, sp⟩ := a; simp only at h; subst h; exact add_mk b o k
theorem ldN_cells {a : Addr} {c : List Value} {T : TypeId} {fz : Nat × Nat} (hb : s.at a.block = some (.cells c.toArray T fz)) (hs : a.spot = none) : ∀ (n i : Nat), a.off + i + n ≤ c.length → ldN s a i n = some ((c.drop (a.off + i)).take n) := by
  intro n
  induction n with
  | zero => intro i h; simp [ldN]
  | succ n ih =>
    intro i h
    have hl : s.ld (a.add i) = some c[a.off + i] := by
      rw [add_spot hs]
      simp [St.ld, cellOf, hb]
    simp only [ldN, hl, ih (i + 1) (by omega), ocons]
    rw [List.drop_eq_getElem_cons (by omega : a.off + i < c.length)]
    simp [Nat.add_assoc]
theorem XSto_cells {a : Addr} {T : TypeId} (hs : a.spot = none) (K : Kp (St → Prop)) : ∀ (vs : List Value) (i : Nat) (s : St) (c : List Value), s.h a.block = some (.cells c.toArray T (0, 0)) →
    a.off + i + vs.length ≤ c.length → (∀ v ∈ vs, oneCell v = true) → XSto s a vs i K = K (if vs = [] then s else s.upd a.block (.cells (spl c (a.off + i) vs).toArray T (0, 0))) := by
  intro vs
  induction vs with
  | nil => intro i s c hb hl h1; simp [XSto]
  | cons v vs ih =>
    intro i s c hb hl h1
    simp only [List.length_cons] at hl
    simp only [XSto, add_spot hs, hb, stC]
    have hc : a.off + i < c.toArray.size ∧ oneCell v = true := ⟨by simp; omega, h1 v (by simp)⟩
    rw [if_pos hc]
    simp only [XObj, List.setIfInBounds_toArray, add_spot hs]
    rw [ih (i + 1) _ (c.set (a.off + i) v) (upd_h_self _ _) (by simp; omega) (fun w hw => h1 w (by simp [hw]))]
    have e : spl (c.set (a.off + i) v) (a.off + (i + 1)) vs = spl c (a.off + i) (v :: vs) := by
      rw [← Nat.add_assoc]; exact spl_cons c _ v vs (by omega)
    by_cases hv : vs = []
    · subst hv
      simp only [if_true, reduceCtorEq, if_false]
      rw [← e, spl_nil]
    · simp only [hv, if_false, reduceCtorEq, e, upd_upd]

/-! ### bytes to a string -/
def bsOf : List Value → Option (List UInt8)
  | [] => some []
  | .int .u8 n :: vs => (bsOf vs).map (UInt8.ofNat n.toNat :: ·)
  | _ => none
theorem bsOf_byteVals (l : List UInt8) : bsOf (byteVals l) = some l := by
  induction l with
  | nil => rfl
  | cons b l ih =>
    have ih' : bsOf (l.map fun b => Value.int .u8 b.toNat) = some l := ih
    simp [byteVals, bsOf, ih']
def isBs (P : Program) (src dst : TypeId) : Bool := match P.underlying src, P.underlying dst with
  | some (.slice e), some .string => match P.underlying e with | some (.int .u8) => true | _ => false
  | _, _ => false
theorem ba_push (acc : ByteArray) (b : UInt8) (l : List UInt8) : acc.push b ++ ⟨l.toArray⟩ = acc ++ ⟨(b :: l).toArray⟩ := by
  apply ByteArray.ext; apply Array.ext'; simp
theorem wpS_bytes {g : Value → ByteArray → Sem (ForInStep ByteArray)} (hg : ∀ n r, g (.int .u8 n) r = pure (ForInStep.yield (r.push (UInt8.ofNat n.toNat)))) :
    ∀ (vs : List Value) (l : List UInt8) (acc : ByteArray) (s : St) (K : ByteArray → St → Prop), bsOf vs = some l → wpS P dt (forIn (m := Sem) vs acc g) s K = K (acc ++ ⟨l.toArray⟩) s := by
  intro vs
  induction vs with
  | nil =>
    intro l acc s K h
    cases h
    have e : acc ++ (⟨#[]⟩ : ByteArray) = acc := by apply ByteArray.ext; apply Array.ext'; simp
    simp [wpS_pure, e]
  | cons v vs ih =>
    intro l acc s K h
    unfold bsOf at h
    split at h
    · rename_i heq; cases heq
    · rename_i n vs' heq
      cases heq
      simp only [Option.map_eq_some_iff] at h
      obtain ⟨l', hl', rfl⟩ := h
      simp only [List.forIn_cons, hg, wpS_bind', wpS_pure]
      rw [ih l' _ _ _ hl', ba_push]
    · cases h
/-- a conversion of bytes to a string: the reading is given -/
theorem XConv_bytes {sr d : TypeId} (hc : convK P sr d = .other) (hb : isBs P sr d = true) {a : Addr} {n c : Nat} {l : List UInt8} (hr : ∃ vs, ldN s a 0 n = some vs ∧ bsOf vs = some l) :
    XConv P dt .other sr d (.slice (some a) n c) s K = K (.string ⟨l.toArray⟩) s := by
  obtain ⟨vs, hvs, hl⟩ := hr
  unfold isBs at hb
  split at hb
  · rename_i e hu1 hu2
    split at hb
    · rename_i hu3
      simp only [XConv, convert, wpS_bind', wpS_underlying _ hu1, wpS_underlying _ hu2, wpS_underlying _ hu3, Conv.bytesToString, loadCells]
      rw [show (#[] : Array Value) = ([] : List Value).toArray from rfl, wpS_loadCellsFrom, hvs]
      simp only [XLs, List.append_toArray, List.nil_append]
      rw [← Array.forIn_toList]
      refine (wpS_bytes (fun n r => rfl) vs l _ s _ hl).trans ?_
      have e : ByteArray.empty ++ (⟨l.toArray⟩ : ByteArray) = ⟨l.toArray⟩ := by apply ByteArray.ext; apply Array.ext'; simp
      rw [wpS_pure, e]
    · cases hb
  · cases hb
end
end Go.Proofs.TX
