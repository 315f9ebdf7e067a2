/- The document's layer 6: Digits, Text. -/
import Derived.Test.YtfndoonmgilklaaGreatDoorXT18
set_option linter.unusedSimpArgs false
set_option linter.unusedVariables false
set_option maxRecDepth 100000
set_option maxHeartbeats 4000000
namespace Go.Proofs.TX
open Go
theorem dig_extract (k : Nat) (h : k < 10) : (ByteArray.mk #[48, 49, 50, 51, 52, 53, 54, 55, 56, 57]).extract k (k + 1) = ⟨#[UInt8.ofNat (48 + k)]⟩ := by
  have : ∀ k : Fin 10, ((ByteArray.mk #[48, 49, 50, 51, 52, 53, 54, 55, 56, 57]).extract k.val (k.val + 1)).data = #[UInt8.ofNat (48 + k.val)] := by decide +kernel
  have := this ⟨k, h⟩
  exact ByteArray.ext this
theorem tdiv_nat (u : Nat) : Int.tdiv (u : Int) 10 = ((u / 10 : Nat) : Int) := by rw [Int.tdiv_eq_ediv_of_nonneg (by omega)]; omega
theorem tmod_nat (u : Nat) : Int.tmod (u : Int) 10 = ((u % 10 : Nat) : Int) := by rw [Int.tmod_eq_emod_of_nonneg (by omega)]; omega
theorem tdiv_neg (u : Nat) : Int.tdiv (-(u : Int)) 10 = -((u / 10 : Nat) : Int) := by rw [Int.neg_tdiv, tdiv_nat]
theorem tmod_neg (u : Nat) : Int.tmod (-(u : Int)) 10 = -((u % 10 : Nat) : Int) := by rw [Int.neg_tmod, tmod_nat]
theorem itoa_nat (u : Nat) : Lib.itoa (u : Int) = Lib.decDigits u := by unfold Lib.itoa; rw [if_neg (by omega)]; simp
theorem itoa_neg (u : Nat) (h : u ≠ 0) : Lib.itoa (-(u : Int)) = 45 :: Lib.decDigits u := by unfold Lib.itoa; rw [if_pos (by omega)]; simp
theorem digits_c (B : World) : ∀ (m : Nat) (x : Int), x.natAbs * 2 + (if x < 0 then 1 else 0) ≤ m → i64ok x → ∀ (s : St) (R : Value → St → Prop), (∀ n, s.n ≤ n → R (str (Lib.itoa x)) (s.more n)) → CallOK Tryz.prog B 35 #[.int .i64 x] s R := by
  intro m
  induction m using Nat.strongRecOn with
  | _ m ih =>
    intro x hm hx s R h
    unfold i64ok at hx
    by_cases hneg : x < 0
    · obtain ⟨u, rfl⟩ : ∃ u : Nat, x = -(u : Int) := ⟨x.natAbs, by omega⟩
      rw [if_pos hneg] at hm
      have hab : (-(u : Int)).natAbs = u := by omega
      rw [hab] at hm
      have hl := Lib.itoa_length_le (-(u : Int)) hx.1 hx.2
      by_cases h9 : -(u : Int) < -9
      · refine call_of (.base Tryz.prog B) (fun _ => none) mixed Tryz.func35 rfl (by simp [Tryz.ntmps35]) (by kernel_rfl) fun hw => ?_
        simp (maxSteps := 2000000) -dsimp (disch := omega) only [hneg, h9, decide_true, tdiv_neg, ↓Tryz.ntmps35, ↓res35, ↓xpre0, xpost0, xpost1, xpost2, xpost3, facts0, facts1, calls0, St.wf.none hw, Nat.add_assoc, ↓reduceIte, Nat.reduceEqDiff, Nat.reduceMul, Nat.reduceAdd, Nat.reduceSub, Nat.reduceLeDiff, Nat.reduceLT, Int.reduceBEq, Int.reduceBNe, Int.reduceEq, Int.reduceNe, Int.reduceLT, Int.reduceLE, Int.reduceToNat, Int.reduceAdd, Int.reduceSub, Int.reduceMul, Int.cast_ofNat_Int]
        rw [wrap_i64 (by omega) (by omega)]
        refine ih (u / 10 * 2 + 1) (by omega) (-((u / 10 : Nat) : Int)) (by split <;> omega) (by unfold i64ok; omega) s _ (fun n hn => ?_)
        simp (maxSteps := 2000000) -dsimp (disch := omega) only [hneg, h9, decide_true, tmod_neg, ↓Tryz.ntmps35, ↓res35, ↓xpre0, xpost0, xpost1, xpost2, xpost3, facts0, facts1, calls0, St.wf.none hw, Nat.add_assoc, ↓reduceIte, Nat.reduceEqDiff, Nat.reduceMul, Nat.reduceAdd, Nat.reduceSub, Nat.reduceLeDiff, Nat.reduceLT, Int.reduceBEq, Int.reduceBNe, Int.reduceEq, Int.reduceNe, Int.reduceLT, Int.reduceLE, Int.reduceToNat, Int.reduceAdd, Int.reduceSub, Int.reduceMul, Int.cast_ofNat_Int]
        have e : (0 - -((u % 10 : Nat) : Int)) = ((u % 10 : Nat) : Int) := by omega
        rw [e, wrap_i64 (by omega) (by omega)]
        refine ih (u % 10 * 2) (by omega) ((u % 10 : Nat) : Int) (by split <;> omega) (by unfold i64ok; omega) _ _ (fun n' hn' => ?_)
        simp only [more_n] at hn'
        have e3 : Lib.itoa (-((u / 10 : Nat) : Int)) ++ Lib.itoa ((u % 10 : Nat) : Int) = Lib.itoa (-(u : Int)) := by
          rw [itoa_neg _ (by omega), itoa_nat, itoa_neg _ (by omega)]
          conv => rhs; rw [Lib.decDigits, dif_neg (by omega)]
          rw [Lib.decDigits_one (i := u % 10) (by omega)]; rfl
        simp (maxSteps := 2000000) -dsimp (disch := omega) only [e3, ↓Tryz.ntmps35, ↓res35, ↓xpre0, xpost0, xpost1, xpost2, xpost3, facts0, facts1, calls0, St.wf.none hw, Nat.add_assoc, ↓reduceIte, Nat.reduceEqDiff, Nat.reduceMul, Nat.reduceAdd, Nat.reduceSub, Nat.reduceLeDiff, Nat.reduceLT, Int.reduceBEq, Int.reduceBNe, Int.reduceEq, Int.reduceNe, Int.reduceLT, Int.reduceLE, Int.reduceToNat, Int.reduceAdd, Int.reduceSub, Int.reduceMul, Int.cast_ofNat_Int]
        rw [← e3, List.length_append] at hl
        refine ⟨by omega, fun _ => drop_ext hw ?_ h⟩
        (repeat (first | with_reducible exact Ext.refl _ | with_reducible assumption | refine Ext.lay ?_ _ _ _ (by omega) (by first | omega | (simp only [lay_n, upd_n, more_n, froz_n]; omega)) | refine Ext.upd ?_ _ _ (by omega) | refine Ext.more ?_ _ (by first | omega | (simp only [lay_n, upd_n, more_n, froz_n]; omega)) | refine Ext.frz ?_ hw _ _ _ (by omega) (by first | omega | (simp only [lay_n, upd_n, more_n, froz_n]; omega))))
      · refine call_of (.base Tryz.prog B) (fun _ => none) mixed Tryz.func35 rfl (by simp [Tryz.ntmps35]) (by kernel_rfl) fun hw => ?_
        simp (maxSteps := 2000000) -dsimp (disch := omega) only [hneg, h9, decide_true, decide_false, ↓Tryz.ntmps35, ↓res35, ↓xpre0, xpost0, xpost1, xpost2, xpost3, facts0, facts1, calls0, St.wf.none hw, Nat.add_assoc, ↓reduceIte, Nat.reduceEqDiff, Nat.reduceMul, Nat.reduceAdd, Nat.reduceSub, Nat.reduceLeDiff, Nat.reduceLT, Int.reduceBEq, Int.reduceBNe, Int.reduceEq, Int.reduceNe, Int.reduceLT, Int.reduceLE, Int.reduceToNat, Int.reduceAdd, Int.reduceSub, Int.reduceMul, Int.cast_ofNat_Int]
        have e : (0 - -(u : Int)) = (u : Int) := by omega
        rw [e, wrap_i64 (by omega) (by omega)]
        refine ih (u * 2) (by omega) (u : Int) (by split <;> omega) (by unfold i64ok; omega) s _ (fun n hn => ?_)
        have e3 : (45 : UInt8) :: Lib.itoa (u : Int) = Lib.itoa (-(u : Int)) := by rw [itoa_neg _ (by omega), itoa_nat]
        simp (maxSteps := 2000000) -dsimp (disch := omega) only [e3, ↓Tryz.ntmps35, ↓res35, ↓xpre0, xpost0, xpost1, xpost2, xpost3, facts0, facts1, calls0, St.wf.none hw, Nat.add_assoc, ↓reduceIte, Nat.reduceEqDiff, Nat.reduceMul, Nat.reduceAdd, Nat.reduceSub, Nat.reduceLeDiff, Nat.reduceLT, Int.reduceBEq, Int.reduceBNe, Int.reduceEq, Int.reduceNe, Int.reduceLT, Int.reduceLE, Int.reduceToNat, Int.reduceAdd, Int.reduceSub, Int.reduceMul, Int.cast_ofNat_Int]
        rw [← e3, List.length_cons] at hl
        refine ⟨by omega, fun _ => drop_ext hw ?_ h⟩
        (repeat (first | with_reducible exact Ext.refl _ | with_reducible assumption | refine Ext.lay ?_ _ _ _ (by omega) (by first | omega | (simp only [lay_n, upd_n, more_n, froz_n]; omega)) | refine Ext.upd ?_ _ _ (by omega) | refine Ext.more ?_ _ (by first | omega | (simp only [lay_n, upd_n, more_n, froz_n]; omega)) | refine Ext.frz ?_ hw _ _ _ (by omega) (by first | omega | (simp only [lay_n, upd_n, more_n, froz_n]; omega))))
    · obtain ⟨u, rfl⟩ : ∃ u : Nat, x = (u : Int) := ⟨x.natAbs, by omega⟩
      rw [if_neg hneg] at hm
      have hab : ((u : Int)).natAbs = u := by omega
      rw [hab] at hm
      have hl := Lib.itoa_length_le (u : Int) hx.1 hx.2
      have w1 : IntKind.i64.wrap (((u % 10 : Nat) : Int) + 1) = ((u % 10 + 1 : Nat) : Int) := by rw [wrap_i64 (by omega) (by omega)]; omega
      have hd := dig_extract (u % 10) (by omega)
      by_cases h10 : (u : Int) < 10
      · refine call_of (.base Tryz.prog B) (fun _ => none) mixed Tryz.func35 rfl (by simp [Tryz.ntmps35]) (by kernel_rfl) fun hw => ?_
        simp (maxSteps := 2000000) -dsimp (disch := omega) only [hneg, h10, decide_true, decide_false, tmod_nat, w1, Int.toNat_natCast, hd, ↓Tryz.ntmps35, ↓res35, ↓xpre0, xpost0, xpost1, xpost2, xpost3, facts0, facts1, calls0, St.wf.none hw, Nat.add_assoc, ↓reduceIte, Nat.reduceEqDiff, Nat.reduceMul, Nat.reduceAdd, Nat.reduceSub, Nat.reduceLeDiff, Nat.reduceLT, Int.reduceBEq, Int.reduceBNe, Int.reduceEq, Int.reduceNe, Int.reduceLT, Int.reduceLE, Int.reduceToNat, Int.reduceAdd, Int.reduceSub, Int.reduceMul, Int.cast_ofNat_Int]
        refine ⟨by omega, fun _ => ⟨by omega, fun _ => ?_⟩⟩
        refine drop_ext hw (Ext.refl _) (fun n hn => ?_)
        have := h n hn
        rw [itoa_nat, Lib.decDigits_one (by omega)] at this
        have e : u % 10 = u := by omega
        rw [e]; exact this
      · refine call_of (.base Tryz.prog B) (fun _ => none) mixed Tryz.func35 rfl (by simp [Tryz.ntmps35]) (by kernel_rfl) fun hw => ?_
        simp (maxSteps := 2000000) -dsimp (disch := omega) only [hneg, h10, decide_true, decide_false, tmod_nat, tdiv_nat, w1, Int.toNat_natCast, hd, ↓Tryz.ntmps35, ↓res35, ↓xpre0, xpost0, xpost1, xpost2, xpost3, facts0, facts1, calls0, St.wf.none hw, Nat.add_assoc, ↓reduceIte, Nat.reduceEqDiff, Nat.reduceMul, Nat.reduceAdd, Nat.reduceSub, Nat.reduceLeDiff, Nat.reduceLT, Int.reduceBEq, Int.reduceBNe, Int.reduceEq, Int.reduceNe, Int.reduceLT, Int.reduceLE, Int.reduceToNat, Int.reduceAdd, Int.reduceSub, Int.reduceMul, Int.cast_ofNat_Int]
        refine ⟨by omega, fun _ => ⟨by omega, fun _ => ?_⟩⟩
        rw [wrap_i64 (by omega) (by omega)]
        refine ih (u / 10 * 2) (by omega) ((u / 10 : Nat) : Int) (by split <;> omega) (by unfold i64ok; omega) _ _ (fun n' hn' => ?_)
        have e3 : Lib.itoa ((u / 10 : Nat) : Int) ++ [UInt8.ofNat (48 + u % 10)] = Lib.itoa (u : Int) := by
          rw [itoa_nat, itoa_nat]
          conv => rhs; rw [Lib.decDigits, dif_neg (by omega)]
        have e4 : (ByteArray.mk (Lib.itoa ((u / 10 : Nat) : Int)).toArray) ++ (ByteArray.mk #[UInt8.ofNat (48 + u % 10)]) = ⟨(Lib.itoa (u : Int)).toArray⟩ := by
          rw [← e3, ← bs_append]
        have e5 : (ByteArray.mk #[UInt8.ofNat (48 + u % 10)]).size = 1 := rfl
        simp (maxSteps := 2000000) -dsimp (disch := omega) only [e4, e5, ↓Tryz.ntmps35, ↓res35, ↓xpre0, xpost0, xpost1, xpost2, xpost3, facts0, facts1, calls0, St.wf.none hw, Nat.add_assoc, ↓reduceIte, Nat.reduceEqDiff, Nat.reduceMul, Nat.reduceAdd, Nat.reduceSub, Nat.reduceLeDiff, Nat.reduceLT, Int.reduceBEq, Int.reduceBNe, Int.reduceEq, Int.reduceNe, Int.reduceLT, Int.reduceLE, Int.reduceToNat, Int.reduceAdd, Int.reduceSub, Int.reduceMul, Int.cast_ofNat_Int]
        rw [← e3, List.length_append, List.length_singleton] at hl
        refine ⟨by omega, fun _ => drop_ext hw ?_ h⟩
        (repeat (first | with_reducible exact Ext.refl _ | with_reducible assumption | refine Ext.lay ?_ _ _ _ (by omega) (by first | omega | (simp only [lay_n, upd_n, more_n, froz_n]; omega)) | refine Ext.upd ?_ _ _ (by omega) | refine Ext.more ?_ _ (by first | omega | (simp only [lay_n, upd_n, more_n, froz_n]; omega)) | refine Ext.frz ?_ hw _ _ _ (by omega) (by first | omega | (simp only [lay_n, upd_n, more_n, froz_n]; omega))))
def digitsF : List Value → Option Value
  | [.int .i64 x] => if -9223372036854775808 ≤ x ∧ x ≤ 9223372036854775807 then some (str (Lib.itoa x)) else none
  | _ => none
theorem digits_f (B : World) : ∀ args s K, (Spec.fn digitsF).run args s K → CallOK Tryz.prog B 35 args s K.K := by
  refine fn_intro fun l v hF s R h => ?_
  unfold digitsF at hF
  split at hF
  rotate_left
  · cases hF
  rename_i x
  split at hF <;> cases hF
  rename_i hx
  exact digits_c B _ x (Nat.le_refl _) hx s R h
def mayF : List Value → Option Value
  | [.agg c] => (match c.toList with
    | [.int .i64 k, .int .i64 x] => some (.bool (mayV k x))
    | _ => none)
  | _ => none
theorem may_f (B : World) : ∀ args s K, (Spec.fn mayF).run args s K → CallOK Tryz.prog B 33 args s K.K := by
  refine fn_intro fun l v hF s R h => ?_
  unfold mayF at hF
  split at hF
  · rename_i c
    split at hF
    · rename_i k x hc
      cases hF
      have e : c = #[.int .i64 k, .int .i64 x] := by rw [← Array.toArray_toList (xs := c), hc]
      subst e
      exact may_c' B k x s R h
    · cases hF
  · cases hF
noncomputable def eText6 (B : World) : Env Tryz.prog := ((Env.base Tryz.prog B).ext 33 (.fn mayF) (may_f B)).ext 35 (.fn digitsF) (digits_f B)
theorem eText6_33 (B : World) (k x : Int) (s : St) (K : Kp (Value → St → Prop)) : XCallOK Tryz.prog (eText6 B) 33 #[.agg #[.int .i64 k, .int .i64 x]] s K = XMore s (.bool (mayV k x)) K := rfl
theorem eText6_35 (B : World) {n : Int} (h : i64ok n) (s : St) (K : Kp (Value → St → Prop)) : XCallOK Tryz.prog (eText6 B) 35 #[.int .i64 n] s K = XMore s (str (Lib.itoa n)) K :=
  (show _ = (Spec.fn digitsF).run #[.int .i64 n] s K from rfl).trans (Spec.fn_run (by unfold i64ok at h; simp [digitsF, h.1, h.2]) s K)
theorem text6_c' (B : World) (k x : Int) (s : St) (R : Value → St → Prop) (h : ∀ n, s.n ≤ n → R (str (valText k x)) (s.more n)) : CallOK Tryz.prog B 37 #[.agg #[.int .i64 k, .int .i64 x]] s R := by
  cases hm : mayV k x with
  | false =>
    refine call_of (eText6 B) (fun _ => none) mixed Tryz.func37 rfl (by simp [Tryz.ntmps37]) (by kernel_rfl) fun hw => ?_
    simp (maxSteps := 2000000) -dsimp (disch := omega) only [eText6_33, hm, ↓Tryz.ntmps37, ↓res37, ↓xpre0, xpost0, xpost1, xpost2, xpost3, facts0, facts1, calls0, St.wf.none hw, Nat.add_assoc, ↓reduceIte, Nat.reduceEqDiff, Nat.reduceMul, Nat.reduceAdd, Nat.reduceSub, Nat.reduceLeDiff, Nat.reduceLT, Int.reduceBEq, Int.reduceBNe, Int.reduceEq, Int.reduceNe, Int.reduceLT, Int.reduceLE, Int.reduceToNat, Int.reduceAdd, Int.reduceSub, Int.reduceMul, Int.cast_ofNat_Int]
    refine XMore_intro fun n => ?_
    simp (maxSteps := 2000000) -dsimp (disch := omega) only [hm, ↓Tryz.ntmps37, ↓res37, ↓xpre0, xpost0, xpost1, xpost2, xpost3, facts0, facts1, calls0, St.wf.none hw, Nat.add_assoc, ↓reduceIte, Nat.reduceEqDiff, Nat.reduceMul, Nat.reduceAdd, Nat.reduceSub, Nat.reduceLeDiff, Nat.reduceLT, Int.reduceBEq, Int.reduceBNe, Int.reduceEq, Int.reduceNe, Int.reduceLT, Int.reduceLE, Int.reduceToNat, Int.reduceAdd, Int.reduceSub, Int.reduceMul, Int.cast_ofNat_Int]
    refine drop_ext hw ?_ (fun n hn => ?_)
    · (repeat (first | with_reducible exact Ext.refl _ | with_reducible assumption | refine Ext.lay ?_ _ _ _ (by omega) (by first | omega | (simp only [lay_n, upd_n, more_n, froz_n]; omega)) | refine Ext.upd ?_ _ _ (by omega) | refine Ext.more ?_ _ (by first | omega | (simp only [lay_n, upd_n, more_n, froz_n]; omega)) | refine Ext.frz ?_ hw _ _ _ (by omega) (by first | omega | (simp only [lay_n, upd_n, more_n, froz_n]; omega))))
    · simpa [valText, hm] using h n hn
  | true =>
    obtain ⟨hx, hk⟩ := mayV_i64 hm
    have hl := Lib.itoa_length_le x hx.1 hx.2
    rcases hk with ⟨rfl, rfl⟩ | rfl | ⟨rfl, _⟩
    all_goals
      refine call_of (eText6 B) (fun _ => none) mixed Tryz.func37 rfl (by simp [Tryz.ntmps37]) (by kernel_rfl) fun hw => ?_
      simp (maxSteps := 2000000) -dsimp (disch := omega) only [eText6_33, hm, ↓Tryz.ntmps37, ↓res37, ↓xpre0, xpost0, xpost1, xpost2, xpost3, facts0, facts1, calls0, St.wf.none hw, Nat.add_assoc, ↓reduceIte, Nat.reduceEqDiff, Nat.reduceMul, Nat.reduceAdd, Nat.reduceSub, Nat.reduceLeDiff, Nat.reduceLT, Int.reduceBEq, Int.reduceBNe, Int.reduceEq, Int.reduceNe, Int.reduceLT, Int.reduceLE, Int.reduceToNat, Int.reduceAdd, Int.reduceSub, Int.reduceMul, Int.cast_ofNat_Int]
      refine XMore_intro fun n => ?_
      simp (maxSteps := 2000000) -dsimp (disch := omega) only [eText6_35 B hx, ↓Tryz.ntmps37, ↓res37, ↓xpre0, xpost0, xpost1, xpost2, xpost3, facts0, facts1, calls0, St.wf.none hw, Nat.add_assoc, ↓reduceIte, Nat.reduceEqDiff, Nat.reduceMul, Nat.reduceAdd, Nat.reduceSub, Nat.reduceLeDiff, Nat.reduceLT, Int.reduceBEq, Int.reduceBNe, Int.reduceEq, Int.reduceNe, Int.reduceLT, Int.reduceLE, Int.reduceToNat, Int.reduceAdd, Int.reduceSub, Int.reduceMul, Int.cast_ofNat_Int]
    · refine drop_ext hw ?_ (fun n hn => ?_)
      · (repeat (first | with_reducible exact Ext.refl _ | with_reducible assumption | refine Ext.lay ?_ _ _ _ (by omega) (by first | omega | (simp only [lay_n, upd_n, more_n, froz_n]; omega)) | refine Ext.upd ?_ _ _ (by omega) | refine Ext.more ?_ _ (by first | omega | (simp only [lay_n, upd_n, more_n, froz_n]; omega)) | refine Ext.frz ?_ hw _ _ _ (by omega) (by first | omega | (simp only [lay_n, upd_n, more_n, froz_n]; omega))))
      · simpa [valText, hm] using h n hn
    · refine XMore_intro fun n => ?_
      simp (maxSteps := 2000000) -dsimp (disch := omega) only [↓Tryz.ntmps37, ↓res37, ↓xpre0, xpost0, xpost1, xpost2, xpost3, facts0, facts1, calls0, St.wf.none hw, Nat.add_assoc, ↓reduceIte, Nat.reduceEqDiff, Nat.reduceMul, Nat.reduceAdd, Nat.reduceSub, Nat.reduceLeDiff, Nat.reduceLT, Int.reduceBEq, Int.reduceBNe, Int.reduceEq, Int.reduceNe, Int.reduceLT, Int.reduceLE, Int.reduceToNat, Int.reduceAdd, Int.reduceSub, Int.reduceMul, Int.cast_ofNat_Int]
      refine drop_ext hw ?_ (fun n hn => ?_)
      · (repeat (first | with_reducible exact Ext.refl _ | with_reducible assumption | refine Ext.lay ?_ _ _ _ (by omega) (by first | omega | (simp only [lay_n, upd_n, more_n, froz_n]; omega)) | refine Ext.upd ?_ _ _ (by omega) | refine Ext.more ?_ _ (by first | omega | (simp only [lay_n, upd_n, more_n, froz_n]; omega)) | refine Ext.frz ?_ hw _ _ _ (by omega) (by first | omega | (simp only [lay_n, upd_n, more_n, froz_n]; omega))))
      · simpa [valText, hm] using h n hn
    · refine XMore_intro fun n => ?_
      simp (maxSteps := 2000000) -dsimp (disch := omega) only [↓Tryz.ntmps37, ↓res37, ↓xpre0, xpost0, xpost1, xpost2, xpost3, facts0, facts1, calls0, St.wf.none hw, Nat.add_assoc, ↓reduceIte, Nat.reduceEqDiff, Nat.reduceMul, Nat.reduceAdd, Nat.reduceSub, Nat.reduceLeDiff, Nat.reduceLT, Int.reduceBEq, Int.reduceBNe, Int.reduceEq, Int.reduceNe, Int.reduceLT, Int.reduceLE, Int.reduceToNat, Int.reduceAdd, Int.reduceSub, Int.reduceMul, Int.cast_ofNat_Int]
      refine ⟨by omega, fun _ => ?_⟩
      refine drop_ext hw ?_ (fun n hn => ?_)
      · (repeat (first | with_reducible exact Ext.refl _ | with_reducible assumption | refine Ext.lay ?_ _ _ _ (by omega) (by first | omega | (simp only [lay_n, upd_n, more_n, froz_n]; omega)) | refine Ext.upd ?_ _ _ (by omega) | refine Ext.more ?_ _ (by first | omega | (simp only [lay_n, upd_n, more_n, froz_n]; omega)) | refine Ext.frz ?_ hw _ _ _ (by omega) (by first | omega | (simp only [lay_n, upd_n, more_n, froz_n]; omega))))
      · simpa [valText, hm] using h n hn
end Go.Proofs.TX
