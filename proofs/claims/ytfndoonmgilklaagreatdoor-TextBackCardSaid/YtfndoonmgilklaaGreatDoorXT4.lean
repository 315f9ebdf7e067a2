/- The text layer's functions: numbers, values, words. -/
import Derived.Test.YtfndoonmgilklaaGreatDoorXT3
set_option linter.unusedSimpArgs false
set_option linter.unusedVariables false
set_option maxRecDepth 100000
set_option maxHeartbeats 4000000
namespace Go.Proofs.TX
open Go
noncomputable def eNum (B : World) (hB : Good B) : Env Tryz.prog := ((Env.base Tryz.prog B).ext 80 atoiSp (atoi_c B hB)).ext 27 (.fn itoaF) (itoa_c B hB)
theorem eNum_80 (B : World) (hB : Good B) (a : ByteArray) (s : St) (K : Kp (Value → St → Prop)) : XCallOK Tryz.prog (eNum B hB) 80 #[.string a] s K = XAtoi a s K := (show _ = atoiSp.run #[.string a] s K from rfl).trans (atoi_run a s K)
theorem eNum_27 (B : World) (hB : Good B) {n : Int} (h0 : -9223372036854775808 ≤ n) (h1 : n ≤ 9223372036854775807) (s : St) (K : Kp (Value → St → Prop)) : XCallOK Tryz.prog (eNum B hB) 27 #[.int .i64 n] s K = ∀ k, K.K (str (Lib.itoa n)) (s.more (s.n + k)) :=
  (show _ = (Spec.fn itoaF).run #[.int .i64 n] s K from rfl).trans (Spec.fn_run (by simp [itoaF, h0, h1]) s K)
def numberF : List Value → Option Value
  | [.string a] => if a.size ≤ 281474976710656 then some (.tuple #[.int .i64 (atoiN a.data.toList), .bool (numberS a.data.toList).isSome]) else none
  | _ => none
theorem number_c (B : World) (hB : Good B) : ∀ args s K, (Spec.fn numberF).run args s K → CallOK Tryz.prog B 47 args s K.K := by
  refine fn_intro fun l v hF s R h => ?_
  unfold numberF at hF
  split at hF
  rotate_left
  · cases hF
  rename_i a
  split at hF <;> cases hF
  rename_i ha
  refine call_of (eNum B hB) (fun _ => none) mixed Tryz.func47 rfl (by simp [Tryz.ntmps47]) (by kernel_rfl) fun hw => ?_
  simp (maxSteps := 2000000) -dsimp (disch := omega) only [eNum_80, ↓Tryz.ntmps47, ↓res47, ↓xpre0, xpost0, xpost1, xpost2, xpost3, facts0, facts1, calls0, St.wf.none hw, Nat.add_assoc, ↓reduceIte, Nat.reduceEqDiff, Nat.reduceMul, Nat.reduceAdd, Nat.reduceSub, Nat.reduceLeDiff, Nat.reduceLT, Int.reduceBEq, Int.reduceBNe, Int.reduceEq, Int.reduceNe, Int.reduceLT, Int.reduceLE, Int.reduceToNat, Int.reduceAdd, Int.reduceSub, Int.reduceMul, Int.cast_ofNat_Int]
  refine ⟨ha, fun n hn e he he' => ?_⟩
  rcases he' with rfl | ⟨N, rfl⟩
  · obtain ⟨v, hv⟩ := he.1 rfl
    have hr := atoi_range hv
    have hN : atoiN a.data.toList = v := by simp [atoiN, hv]
    simp only [hN] at h ⊢
    simp (maxSteps := 2000000) -dsimp (disch := omega) only [eNum_27 B hB hr.1 hr.2, ↓Tryz.ntmps47, ↓res47, ↓xpre0, xpost0, xpost1, xpost2, xpost3, facts0, facts1, calls0, St.wf.none hw, Nat.add_assoc, ↓reduceIte, Nat.reduceEqDiff, Nat.reduceMul, Nat.reduceAdd, Nat.reduceSub, Nat.reduceLeDiff, Nat.reduceLT, Int.reduceBEq, Int.reduceBNe, Int.reduceEq, Int.reduceNe, Int.reduceLT, Int.reduceLE, Int.reduceToNat, Int.reduceAdd, Int.reduceSub, Int.reduceMul, Int.cast_ofNat_Int]
    intro k
    refine drop_ext hw ?_ (fun m hm => ?_)
    · (repeat (first | with_reducible exact Ext.refl _ | with_reducible assumption | refine Ext.lay ?_ _ _ _ (by omega) (by first | omega | (simp only [lay_n, upd_n, more_n, froz_n]; omega)) | refine Ext.upd ?_ _ _ (by omega) | refine Ext.more ?_ _ (by first | omega | (simp only [lay_n, upd_n, more_n, froz_n]; omega)) | refine Ext.frz ?_ hw _ _ _ (by omega) (by first | omega | (simp only [lay_n, upd_n, more_n, froz_n]; omega))))
    · have e : (numberS a.data.toList).isSome = decide ((ByteArray.mk (Lib.itoa v).toArray) = a) := by
        have : (ByteArray.mk (Lib.itoa v).toArray = a) ↔ Lib.itoa v = a.data.toList := by
          constructor
          · intro e; rw [← e]
          · intro e; rw [e]
        simp only [numberS, hv]
        by_cases hh : Lib.itoa v = a.data.toList <;> simp [hh, this]
      rw [← e]; exact h m hm
  · simp (maxSteps := 2000000) -dsimp (disch := omega) only [↓Tryz.ntmps47, ↓res47, ↓xpre0, xpost0, xpost1, xpost2, xpost3, facts0, facts1, calls0, St.wf.none hw, Nat.add_assoc, ↓reduceIte, Nat.reduceEqDiff, Nat.reduceMul, Nat.reduceAdd, Nat.reduceSub, Nat.reduceLeDiff, Nat.reduceLT, Int.reduceBEq, Int.reduceBNe, Int.reduceEq, Int.reduceNe, Int.reduceLT, Int.reduceLE, Int.reduceToNat, Int.reduceAdd, Int.reduceSub, Int.reduceMul, Int.cast_ofNat_Int]
    have hno : numberS a.data.toList = none := by
      unfold numberS
      split
      · rename_i v hv; exact absurd (he.2 ⟨v, hv⟩) (by simp)
      · rfl
    refine drop_ext hw ?_ (fun m hm => ?_)
    · (repeat (first | with_reducible exact Ext.refl _ | with_reducible assumption | refine Ext.lay ?_ _ _ _ (by omega) (by first | omega | (simp only [lay_n, upd_n, more_n, froz_n]; omega)) | refine Ext.upd ?_ _ _ (by omega) | refine Ext.more ?_ _ (by first | omega | (simp only [lay_n, upd_n, more_n, froz_n]; omega)) | refine Ext.frz ?_ hw _ _ _ (by omega) (by first | omega | (simp only [lay_n, upd_n, more_n, froz_n]; omega))))
    · simpa [hno] using h m hm
theorem u64_wrap (n : Int) : IntKind.u64.wrap n = n % 18446744073709551616 := by simp [IntKind.wrap, IntKind.bits, IntKind.signed]
theorem shl_or (x r : Int) (hr : r = 1 ∨ r = 2) : IntKind.u64.wrap ((BitVec.ofInt IntKind.u64.bits (IntKind.u64.wrap (IntKind.u64.wrap x * 2 ^ (min 2 IntKind.u64.bits))) ||| BitVec.ofInt IntKind.u64.bits r).toNat : Int) = (4 * x + r) % 18446744073709551616 := by
  have h2 : (2 : Int) ^ (min 2 IntKind.u64.bits) = 4 := rfl
  rw [h2]
  simp only [u64_wrap]
  have hb : IntKind.u64.bits = 64 := rfl
  rw [BitVec.toNat_or, BitVec.toNat_ofInt, BitVec.toNat_ofInt, hb]
  obtain ⟨q, hq⟩ : ∃ q : Nat, ((x % 18446744073709551616 * 4 % 18446744073709551616) % ((2 ^ 64 : Nat) : Int)).toNat = 2 ^ 2 * q := ⟨(x % 4611686018427387904).toNat, by omega⟩
  obtain ⟨r', hr'⟩ : ∃ r' : Nat, (r % ((2 ^ 64 : Nat) : Int)).toNat = r' ∧ r' < 2 ^ 2 ∧ (r' : Int) = r := ⟨r.toNat, by rcases hr with rfl | rfl <;> decide, by rcases hr with rfl | rfl <;> decide, by rcases hr with rfl | rfl <;> decide⟩
  rw [hq, hr'.1, ← Nat.two_pow_add_eq_or_of_lt hr'.2.1]
  have := hr'.2.2
  omega
def encF : List Value → Option Value
  | [.agg c] => match c.toList with
    | [.int .i64 k, .int .i64 x] => some (.tuple (if mayV k x = true then #[.int .u64 (encW k x), .int .i64 0] else #[.int .u64 0, .int .i64 1]))
    | _ => none
  | _ => none
theorem enc_c' (B : World) (k x : Int) (s : St) (R : Value → St → Prop) (h : ∀ n, s.n ≤ n → R (.tuple (if mayV k x = true then #[.int .u64 (encW k x), .int .i64 0] else #[.int .u64 0, .int .i64 1])) (s.more n)) :
    CallOK Tryz.prog B 53 #[.agg #[.int .i64 k, .int .i64 x]] s R := by
  refine call_of (.base Tryz.prog B) (fun _ => none) mixed Tryz.func53 rfl (by simp [Tryz.ntmps53]) (by kernel_rfl) fun hw => ?_
  simp (maxSteps := 2000000) -dsimp (disch := omega) only [↓Tryz.ntmps53, ↓res53, ↓xpre0, xpost0, xpost1, xpost2, xpost3, facts0, facts1, calls0, St.wf.none hw, Nat.add_assoc, ↓reduceIte, Nat.reduceEqDiff, Nat.reduceMul, Nat.reduceAdd, Nat.reduceSub, Nat.reduceLeDiff, Nat.reduceLT, Int.reduceBEq, Int.reduceBNe, Int.reduceEq, Int.reduceNe, Int.reduceLT, Int.reduceLE, Int.reduceToNat, Int.reduceAdd, Int.reduceSub, Int.reduceMul, Int.cast_ofNat_Int]
  have fin : ∀ (t : St) (v : Value), Ext s t → v = .tuple (if mayV k x = true then #[.int .u64 (encW k x), .int .i64 0] else #[.int .u64 0, .int .i64 1]) → Drop R v t := by
    rintro t v he rfl
    exact drop_ext hw he h
  (repeat' (first | apply And.intro | intro _))
  all_goals first
    | omega
    | (refine fin _ _ ?_ ?_
       · (repeat (first | with_reducible exact Ext.refl _ | with_reducible assumption | refine Ext.lay ?_ _ _ _ (by omega) (by first | omega | (simp only [lay_n, upd_n, more_n, froz_n]; omega)) | refine Ext.upd ?_ _ _ (by omega) | refine Ext.more ?_ _ (by first | omega | (simp only [lay_n, upd_n, more_n, froz_n]; omega)) | refine Ext.frz ?_ hw _ _ _ (by omega) (by first | omega | (simp only [lay_n, upd_n, more_n, froz_n]; omega))))
       · first
         | (rw [shl_or _ _ (.inl rfl)]; subst k; simp [mayV, encW]; omega)
         | (rw [shl_or _ _ (.inr rfl)]; subst k; simp [mayV, encW]; omega)
         | (subst k; simp [mayV, encW]; done)
         | (subst k; simp [mayV, encW]; omega)
         | simp_all [mayV, encW])
theorem enc_c (B : World) : ∀ args s K, (Spec.fn encF).run args s K → CallOK Tryz.prog B 53 args s K.K := by
  refine fn_intro fun l v hF s R h => ?_
  unfold encF at hF
  split at hF
  · rename_i c
    split at hF
    · rename_i k x hc
      cases hF
      have e : c = #[.int .i64 k, .int .i64 x] := by rw [← Array.toArray_toList (xs := c), hc]
      subst e
      exact enc_c' B k x s R h
    · cases hF
  · cases hF
noncomputable def eText (B : World) (hB : Good B) : Env Tryz.prog := ((Env.base Tryz.prog B).ext 53 (.fn encF) (enc_c B)).ext 54 (.fn formatF) (format_c B hB)
theorem eText_53 (B : World) (hB : Good B) (k x : Int) (s : St) (K : Kp (Value → St → Prop)) : XCallOK Tryz.prog (eText B hB) 53 #[.agg #[.int .i64 k, .int .i64 x]] s K =
    ∀ j, K.K (.tuple (if mayV k x = true then #[.int .u64 (encW k x), .int .i64 0] else #[.int .u64 0, .int .i64 1])) (s.more (s.n + j)) := rfl
theorem eText_54 (B : World) (hB : Good B) {n : Int} (h0 : -9223372036854775808 ≤ n) (h1 : n ≤ 9223372036854775807) (s : St) (K : Kp (Value → St → Prop)) : XCallOK Tryz.prog (eText B hB) 54 #[.int .i64 n, .int .i64 10] s K = ∀ k, K.K (str (Lib.itoa n)) (s.more (s.n + k)) :=
  (show _ = (Spec.fn formatF).run #[.int .i64 n, .int .i64 10] s K from rfl).trans (Spec.fn_run (by simp [formatF, h0, h1]) s K)
theorem text_c' (B : World) (hB : Good B) (k x : Int) (s : St) (R : Value → St → Prop) (h : ∀ n, s.n ≤ n → R (str (valText k x)) (s.more n)) :
    CallOK Tryz.prog B 28 #[.agg #[.int .i64 k, .int .i64 x]] s R := by
  by_cases hm : mayV k x = true
  · have hx : -9223372036854775808 ≤ x ∧ x ≤ 9223372036854775807 ∧ (k = 0 ∨ k = 1 ∨ k = 2) := by
      unfold mayV at hm
      split at hm
      · simp at hm; omega
      · split at hm
        · simp at hm; omega
        · split at hm
          · simp at hm; omega
          · simp at hm
    have hl := Lib.itoa_length_le x hx.1 hx.2.1
    obtain ⟨h0, h1, hk⟩ := hx
    rcases hk with rfl | rfl | rfl
    all_goals
      refine call_of (eText B hB) (fun _ => none) mixed Tryz.func28 rfl (by simp [Tryz.ntmps28]) (by kernel_rfl) fun hw => ?_
      simp (maxSteps := 2000000) -dsimp (disch := omega) only [eText_53, eText_54 B hB h0 h1, if_pos hm, ↓Tryz.ntmps28, ↓res28, ↓xpre0, xpost0, xpost1, xpost2, xpost3, facts0, facts1, calls0, St.wf.none hw, Nat.add_assoc, ↓reduceIte, Nat.reduceEqDiff, Nat.reduceMul, Nat.reduceAdd, Nat.reduceSub, Nat.reduceLeDiff, Nat.reduceLT, Int.reduceBEq, Int.reduceBNe, Int.reduceEq, Int.reduceNe, Int.reduceLT, Int.reduceLE, Int.reduceToNat, Int.reduceAdd, Int.reduceSub, Int.reduceMul, Int.cast_ofNat_Int]
      intro j j'
      refine ⟨by omega, fun _ => ?_⟩
      refine drop_ext hw ?_ (fun n hn => ?_)
      · (repeat (first | with_reducible exact Ext.refl _ | with_reducible assumption | refine Ext.lay ?_ _ _ _ (by omega) (by first | omega | (simp only [lay_n, upd_n, more_n, froz_n]; omega)) | refine Ext.upd ?_ _ _ (by omega) | refine Ext.more ?_ _ (by first | omega | (simp only [lay_n, upd_n, more_n, froz_n]; omega)) | refine Ext.frz ?_ hw _ _ _ (by omega) (by first | omega | (simp only [lay_n, upd_n, more_n, froz_n]; omega))))
      · simpa [valText, hm] using h n hn
  · refine call_of (eText B hB) (fun _ => none) mixed Tryz.func28 rfl (by simp [Tryz.ntmps28]) (by kernel_rfl) fun hw => ?_
    simp (maxSteps := 2000000) -dsimp (disch := omega) only [eText_53, if_neg hm, ↓Tryz.ntmps28, ↓res28, ↓xpre0, xpost0, xpost1, xpost2, xpost3, facts0, facts1, calls0, St.wf.none hw, Nat.add_assoc, ↓reduceIte, Nat.reduceEqDiff, Nat.reduceMul, Nat.reduceAdd, Nat.reduceSub, Nat.reduceLeDiff, Nat.reduceLT, Int.reduceBEq, Int.reduceBNe, Int.reduceEq, Int.reduceNe, Int.reduceLT, Int.reduceLE, Int.reduceToNat, Int.reduceAdd, Int.reduceSub, Int.reduceMul, Int.cast_ofNat_Int]
    intro j
    refine drop_ext hw ?_ (fun n hn => ?_)
    · (repeat (first | with_reducible exact Ext.refl _ | with_reducible assumption | refine Ext.lay ?_ _ _ _ (by omega) (by first | omega | (simp only [lay_n, upd_n, more_n, froz_n]; omega)) | refine Ext.upd ?_ _ _ (by omega) | refine Ext.more ?_ _ (by first | omega | (simp only [lay_n, upd_n, more_n, froz_n]; omega)) | refine Ext.frz ?_ hw _ _ _ (by omega) (by first | omega | (simp only [lay_n, upd_n, more_n, froz_n]; omega))))
    · simpa [valText, hm] using h n hn
end Go.Proofs.TX
