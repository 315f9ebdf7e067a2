/- The library's functions that the text layer calls, from the shelf's contracts. -/
import Derived.Test.YtfndoonmgilklaaGreatDoorXT1
import Derived.Test.YtfndoonmgilklaaGreatDoorXTryzShelf
set_option linter.unusedSimpArgs false
set_option linter.unusedVariables false
set_option maxRecDepth 100000
set_option maxHeartbeats 4000000
namespace Go.Proofs.TX
open Go Go.RowKit
/-- what the world must hold at the start -/
structure Good (B : World) : Prop where
  max : ∃ m, B.cell? ⟨0, 0, none⟩ = some (.int .i64 m)
  tab : Lib.TabIs Tryz.prog B "internal/strconv.uint64pow10" .u64 Lib.pow10Tab
  syn : ∃ tp p, B.var? Tryz.prog "strconv.ErrSyntax" = some #[.iface tp p]
  rng : ∃ tp p, B.var? Tryz.prog "strconv.ErrRange" = some #[.iface tp p]
theorem callOK_of {P : Program} {B : World} {f : FuncId} {args : Array Value} {s : St} {R : Value → St → Prop}
    (h : ∀ w, Sat B w s → Calls P f args w fun e w' => ∃ v s', e = .returned v ∧ Sat B w' s' ∧ R v s') : CallOK P B f args s R := fun w hs => callsIn_wide.2 (h w hs)
theorem Sat.below {B w w' : World} {s : St} (h : Sat B w s) (hb : Below w.heap.size w w') : Sat B w' (s.more w'.heap.size) := by
  have hl : ∀ b o, w.heap[b]? = some o → w'.heap[b]? = some o := fun b o hbo => by rw [hb.block b (Array.getElem?_eq_some_iff.1 hbo).1]; exact hbo
  refine ⟨hb.os.trans h.os, hb.output.trans h.out, hb.tape.trans h.tape, rfl, fun b o x => hl _ _ (h.ro b o x), fun b o x => hl _ _ (h.own b o x), h.dis, ?_, h.ge, fun b hb' => ?_⟩
  · have := h.le; have := h.size; have := hb.size; show B.heap.size ≤ w'.heap.size; omega
  · rw [hb.block b (by have := h.le; have := h.size; omega)]; exact h.base b hb'
theorem Sat.le_size {B w w' : World} {s : St} (h : Sat B w s) (hb : Below w.heap.size w w') : s.n ≤ w'.heap.size := by have := h.size; have := hb.size; omega
theorem Sat.cell {B w : World} {s : St} (h : Sat B w s) {a : Addr} {v : Value} (hv : B.cell? a = some v) : w.cell? a = some v := by
  unfold World.cell? at *
  cases hb : B.heap[a.block]? with
  | none => simp [hb] at hv
  | some o => rw [h.base _ (Array.getElem?_eq_some_iff.1 hb).1]; exact hv
theorem Sat.var {P : Program} {B w : World} {s : St} (h : Sat B w s) {nm : String} {v : Array Value} (hv : B.var? P nm = some v) : w.var? P nm = some v := by
  unfold World.var? at *
  cases hg : P.globalNamed nm with
  | none => simp [hg] at hv
  | some g =>
    simp only [hg, Option.bind_some] at hv ⊢
    cases hb : B.heap[g]? with
    | none => simp [hb] at hv
    | some o => rw [h.base _ (Array.getElem?_eq_some_iff.1 hb).1]; exact hv
theorem below_grow (w : World) (k : Nat) (os : Array Obj) : Below w.heap.size w (Sort.grow (w.drewN k) os) := by
  refine ⟨rfl, rfl, rfl, ?_, fun i hi => ?_⟩
  · simp [Sort.grow, World.drewN]
  · simp only [Sort.grow, World.drewN]; rw [Array.getElem?_append_left hi]
def itoaF : List Value → Option Value
  | [.int .i64 n] => if -9223372036854775808 ≤ n ∧ n ≤ 9223372036854775807 then some (str (Lib.itoa n)) else none
  | _ => none
theorem itoa_c (B : World) (hB : Good B) : ∀ args s K, (Spec.fn itoaF).run args s K → CallOK Tryz.prog B 27 args s K.K := by
  refine fn_intro fun l v hF s R h => ?_
  unfold itoaF at hF
  split at hF
  rotate_left
  · cases hF
  rename_i n
  split at hF <;> cases hF
  rename_i hn
  refine callOK_of fun w hs => (Tryz.strconv_Itoa n hn.1 hn.2 w (hs.var hB.tab)).mono ?_
  rintro e w' ⟨rfl, k, os, rfl⟩
  exact ⟨_, _, rfl, hs.below (below_grow w k os), h _ (hs.le_size (below_grow w k os))⟩
def formatF : List Value → Option Value
  | [.int .i64 n, .int .i64 b] => if b = 10 ∧ -9223372036854775808 ≤ n ∧ n ≤ 9223372036854775807 then some (str (Lib.itoa n)) else none
  | _ => none
theorem format_c (B : World) (hB : Good B) : ∀ args s K, (Spec.fn formatF).run args s K → CallOK Tryz.prog B 54 args s K.K := by
  refine fn_intro fun l v hF s R h => ?_
  unfold formatF at hF
  split at hF
  rotate_left
  · cases hF
  rename_i n b
  split at hF <;> cases hF
  rename_i hn
  obtain ⟨rfl, hn⟩ := hn
  refine callOK_of fun w hs => (Tryz.strconv_FormatInt_10 n hn.1 hn.2 w (hs.var hB.tab)).mono ?_
  rintro e w' ⟨rfl, k, os, rfl⟩
  exact ⟨_, _, rfl, hs.below (below_grow w k os), h _ (hs.le_size (below_grow w k os))⟩
def cutPrefixF : List Value → Option Value
  | [.string a, .string p] => some (.tuple #[str (Lib.trimPrefix a.data.toList p.data.toList), .bool (Lib.hasPrefix a.data.toList p.data.toList)])
  | _ => none
theorem cutPrefix_c (B : World) : ∀ args s K, (Spec.fn cutPrefixF).run args s K → CallOK Tryz.prog B 81 args s K.K := by
  refine fn_intro fun l v hF s R h => ?_
  unfold cutPrefixF at hF
  split at hF <;> cases hF
  rename_i a p
  refine callOK_of fun w hs => (Tryz.strings_CutPrefix a p w).mono ?_
  rintro e w' ⟨rfl, rfl⟩
  exact ⟨_, _, rfl, hs.below (Below.refl _ _), h _ (by rw [hs.size]; exact Nat.le_refl _)⟩
def atoiSp : Spec where
  run args s K := ∃ a : ByteArray, args = #[.string a] ∧ a.size ≤ 281474976710656 ∧ ∀ n, s.n ≤ n → ∀ e : Value, (e = .nilIface ↔ ∃ v, Lib.atoiAll a.data.toList = .ok v) → (e = .nilIface ∨ ∃ N, e = .iface 197 (.pointer (some ⟨N, 0, none⟩))) → K.K (.tuple #[.int .i64 (atoiN a.data.toList), e]) (s.more n)
  mono args s K K' h := fun ⟨a, h1, h2, h3⟩ => ⟨a, h1, h2, fun n hn e he he' => h _ _ (h3 n hn e he he')⟩
/-- what a caller of Atoi owes; here simp stands still -/
def XAtoi (a : ByteArray) (s : St) (K : Kp (Value → St → Prop)) : Prop := a.size ≤ 281474976710656 ∧ ∀ n, s.n ≤ n → ∀ e : Value, (e = .nilIface ↔ ∃ v, Lib.atoiAll a.data.toList = .ok v) → (e = .nilIface ∨ ∃ N, e = .iface 197 (.pointer (some ⟨N, 0, none⟩))) → K.K (.tuple #[.int .i64 (atoiN a.data.toList), e]) (s.more n)
theorem atoi_run (a : ByteArray) (s : St) (K : Kp (Value → St → Prop)) : atoiSp.run #[.string a] s K = XAtoi a s K := by
  simp [atoiSp, XAtoi]
theorem atoi_c (B : World) (hB : Good B) : ∀ args s K, atoiSp.run args s K → CallOK Tryz.prog B 80 args s K.K := by
  rintro args s K ⟨a, rfl, ha, h⟩
  refine callOK_of fun w hs => ?_
  cases hat : Lib.atoiAll a.data.toList
  · rename_i v
    refine (Tryz.strconv_Atoi_ok a (by omega) v hat w).mono ?_
    rintro e w' ⟨rfl, hw⟩
    have hb : Below w.heap.size w w' := by
      rcases hw with rfl | ⟨t, rfl⟩
      · exact Below.refl _ _
      · exact Lib.bytesWorld_below w 5 t
    refine ⟨_, _, rfl, hs.below hb, ?_⟩
    have := h _ (hs.le_size hb) .nilIface (by simp [hat]) (.inl rfl)
    simpa [atoiN, hat] using this
  · obtain ⟨tp, p, hv⟩ := hB.syn
    refine (Tryz.strconv_Atoi_syntax_var a ha hat tp p w (hs.var hv)).mono ?_
    rintro e w' ⟨N, rfl, hN, _, hb⟩
    refine ⟨_, _, rfl, hs.below hb, ?_⟩
    have := h _ (hs.le_size hb) (.iface 197 (.pointer (some ⟨N, 0, none⟩))) (by simp [hat]) (.inr ⟨N, rfl⟩)
    simpa [atoiN, hat] using this
  · obtain ⟨tp, p, hv⟩ := hB.rng
    refine (Tryz.strconv_Atoi_range_var a ha hat tp p w (hs.var hv)).mono ?_
    rintro e w' ⟨N, rfl, hN, _, hb⟩
    refine ⟨_, _, rfl, hs.below hb, ?_⟩
    have := h _ (hs.le_size hb) (.iface 197 (.pointer (some ⟨N, 0, none⟩))) (by simp [hat]) (.inr ⟨N, rfl⟩)
    simpa [atoiN, hat] using this
/-- strings.Split -/
def splitSp : Spec where
  run args s K := ∃ a sep : ByteArray, args = #[.string a, .string sep] ∧ a.size < 4294967281 ∧ 1 ≤ sep.size ∧
    K.K (.slice (some ⟨s.n, 0, none⟩) (Lib.countB a sep + 1) (Lib.countB a sep + 1)) (s.froz s.n (.cells ((Lib.splitB sep 0 (Lib.countB a sep) a).map Value.string).toArray 9) (s.n + 1))
  mono args s K K' h := fun ⟨a, sep, h1, h2, h3, h4⟩ => ⟨a, sep, h1, h2, h3, h _ _ h4⟩
theorem split_c (B : World) (hB : Good B) : ∀ args s K, splitSp.run args s K → CallOK Tryz.prog B 17 args s K.K := by
  rintro args s K ⟨a, sep, rfl, h1, h2, h⟩
  refine CallOK.drop fun hw => callOK_of fun w hs => ?_
  obtain ⟨m, hm⟩ := hB.max
  refine (Tryz.strings_Split a sep m w h1 (hs.cell hm) h2).mono ?_
  rintro e w' ⟨rfl, rfl⟩
  refine ⟨_, s.new _, rfl, hs.push _, ?_⟩
  rw [hs.size]
  exact drop_froz hw ((Ext.refl s).new _) (Nat.le_refl _) (new_h_self _) h
/-- strings.Join -/
def joinSp : Spec where
  run args s K := ∃ (bk c : Nat) (xs : List ByteArray) (sep : ByteArray), args = #[.slice (some ⟨bk, 0, none⟩) xs.length c, .string sep] ∧ (∀ (j : Nat) x, xs[j]? = some x → s.ld ⟨bk, j, none⟩ = some (.string x)) ∧ xs ≠ [] ∧
    xs.length ≤ 140737488355328 ∧ xs.length ≤ c ∧ (Lib.join (xs.map (fun b : ByteArray => b.data.toList)) sep.data.toList).length ≤ 140737488355328 ∧
    ∀ n, s.n ≤ n → K.K (str (Lib.join (xs.map (fun b : ByteArray => b.data.toList)) sep.data.toList)) (s.more n)
  mono args s K K' h := fun ⟨bk, c, xs, sep, h1, h2, h3, h4, h5, h6, h7⟩ => ⟨bk, c, xs, sep, h1, h2, h3, h4, h5, h6, fun n hn => h _ _ (h7 n hn)⟩
theorem join_c (B : World) : ∀ args s K, joinSp.run args s K → CallOK Tryz.prog B 26 args s K.K := by
  rintro args s K ⟨bk, c, xs, sep, rfl, h1, h2, h3, h4, h5, h⟩
  refine callOK_of fun w hs => ?_
  have hcell : ∀ (j : Nat) x, xs[j]? = some x → w.cell? ⟨bk, 0 + j, none⟩ = some (.string x) := fun j x hx => by rw [Nat.zero_add]; exact hs.ld (h1 j x hx)
  have hbk : bk < w.heap.size := by
    cases xs with
    | nil => exact absurd rfl h2
    | cons x xs =>
      have := hcell 0 x rfl
      unfold World.cell? at this
      cases hb : w.heap[bk]? with
      | none => simp [hb] at this
      | some o => exact (Array.getElem?_eq_some_iff.1 hb).1
  refine (Tryz.strings_Join bk 0 c xs sep w hcell hbk h3 h4 h5).mono ?_
  rintro e w' ⟨rfl, hb⟩
  exact ⟨_, _, rfl, hs.below hb, h _ (hs.le_size hb)⟩
end Go.Proofs.TX
