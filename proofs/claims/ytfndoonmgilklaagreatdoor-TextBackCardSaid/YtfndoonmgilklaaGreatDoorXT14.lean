/- The document's layer 31: uses. -/
import Derived.Test.YtfndoonmgilklaaGreatDoorXT11
set_option linter.unusedSimpArgs false
set_option linter.unusedVariables false
set_option maxRecDepth 100000
set_option maxHeartbeats 4000000
namespace Go.Proofs.TX
open Go
def hasS (l : Bs) (c : Int) : Bool := l.any fun b => decide ((b.toNat : Int) = c)
theorem hasS_cons (b : UInt8) (l : Bs) (c : Int) : hasS (b :: l) c = (decide ((b.toNat : Int) = c) || hasS l c) := rfl
theorem opUses_length (d : Int) : (opUses d).length ≤ 4 := by
  by_cases h : 1 ≤ d ∧ d ≤ 10
  · exact ten (p := fun d => (opUses d).length ≤ 4) (by refine ⟨?_, ?_, ?_, ?_, ?_, ?_, ?_, ?_, ?_, ?_⟩ <;> decide) d h.1 h.2
  · rw [(opName_none h).2.1]; simp
noncomputable def eUses (B : World) : Env Tryz.prog := (Env.base Tryz.prog B).ext 34 (.fn usesF) (uses31_c B)
theorem eUses_34 (B : World) (d : Int) (s : St) (K : Kp (Value → St → Prop)) : XCallOK Tryz.prog (eUses B) 34 #[.int .i64 d] s K = ∀ k, K.K (str (opUses d)) (s.more (s.n + k)) := rfl
def hasF : List Value → Option Value
  | [.int .i64 d, .int .u8 c] => some (.bool (hasS (opUses d) c))
  | _ => none
theorem has_c (B : World) : ∀ args s K, (Spec.fn hasF).run args s K → CallOK Tryz.prog B 56 args s K.K := by
  refine fn_intro fun l v hF s R h => ?_
  unfold hasF at hF
  split at hF <;> cases hF
  rename_i d c
  have hlen := opUses_length d
  refine call_of (eUses B) (fun _ => none) mixed Tryz.func56 rfl (by simp [Tryz.ntmps56]) (by kernel_rfl) fun hw => ?_
  simp (maxSteps := 2000000) -dsimp (disch := omega) only [eUses_34, ↓Tryz.ntmps56, ↓res56, ↓xpre0, xpost0, xpost1, xpost2, xpost3, facts0, facts1, calls0, St.wf.none hw, Nat.add_assoc, ↓reduceIte, Nat.reduceEqDiff, Nat.reduceMul, Nat.reduceAdd, Nat.reduceSub, Nat.reduceLeDiff, Nat.reduceLT, Int.reduceBEq, Int.reduceBNe, Int.reduceEq, Int.reduceNe, Int.reduceLT, Int.reduceLE, Int.reduceToNat, Int.reduceAdd, Int.reduceSub, Int.reduceMul, Int.cast_ofNat_Int]
  intro k
  refine loop_wf (pl := fun _ => none) mixed (by kernel_rfl) (fun m fr t => ∃ i, i ≤ (opUses d).length ∧ m = (opUses d).length - i ∧ Ext s t ∧ fr.ds = [] ∧ fr.ρ 1 = .int .u8 c ∧ fr.ρ 5 = str (opUses d) ∧ fr.ρ 6 = .int .i64 (i : Nat) ∧ hasS (opUses d) c = hasS ((opUses d).drop i) c) (opUses d).length ?_ ?_
  · refine ⟨0, by omega, by omega, ?_, rfl, rfl, rfl, rfl, rfl⟩
    (repeat (first | with_reducible exact Ext.refl _ | with_reducible assumption | refine Ext.lay ?_ _ _ _ (by omega) (by first | omega | (simp only [lay_n, upd_n, more_n, froz_n]; omega)) | refine Ext.upd ?_ _ _ (by omega) | refine Ext.more ?_ _ (by first | omega | (simp only [lay_n, upd_n, more_n, froz_n]; omega)) | refine Ext.frz ?_ hw _ _ _ (by omega) (by first | omega | (simp only [lay_n, upd_n, more_n, froz_n]; omega))))
  · rintro m fr t ht ⟨i, hi, rfl, hext, hds, h1, h5, h6, hh⟩
    by_cases hlt : i < (opUses d).length
    · have hlt' : (i : Int) < ((opUses d).length : Int) := by omega
      have hwr : IntKind.i64.wrap ((i : Int) + 1) = ((i + 1 : Nat) : Int) := by rw [wrap_i64 (by omega) (by omega)]; omega
      have hg : (opUses d).toArray.getD i 0 = (opUses d)[i] := by simp [hlt]
      simp (maxSteps := 2000000) -dsimp (disch := omega) only [h1, h5, h6, hds, hlt', hwr, Int.toNat_natCast, hg, ↓Tryz.ntmps56, ↓res56, ↓xpre0, xpost0, xpost1, xpost2, xpost3, facts0, facts1, calls0, St.wf.none hw, Nat.add_assoc, ↓reduceIte, Nat.reduceEqDiff, Nat.reduceMul, Nat.reduceAdd, Nat.reduceSub, Nat.reduceLeDiff, Nat.reduceLT, Int.reduceBEq, Int.reduceBNe, Int.reduceEq, Int.reduceNe, Int.reduceLT, Int.reduceLE, Int.reduceToNat, Int.reduceAdd, Int.reduceSub, Int.reduceMul, Int.cast_ofNat_Int]
      rw [List.drop_eq_getElem_cons hlt] at hh
      refine ⟨by omega, fun _ => ⟨fun e => ?_, fun e => ?_⟩⟩
      · have : hasS (opUses d) c = true := by rw [hh, hasS_cons, decide_eq_true e]; rfl
        refine drop_ext hw hext (fun n hn => ?_)
        rw [← this]; exact h n hn
      · refine ⟨(opUses d).length - (i + 1), by omega, i + 1, by omega, rfl, hext, rfl, ?_⟩
        rw [hh, hasS_cons, decide_eq_false e]; rfl
    · have hnl : ¬ ((i : Int) < ((opUses d).length : Int)) := by omega
      simp (maxSteps := 2000000) -dsimp (disch := omega) only [h1, h5, h6, hds, hnl, ↓Tryz.ntmps56, ↓res56, ↓xpre0, xpost0, xpost1, xpost2, xpost3, facts0, facts1, calls0, St.wf.none hw, Nat.add_assoc, ↓reduceIte, Nat.reduceEqDiff, Nat.reduceMul, Nat.reduceAdd, Nat.reduceSub, Nat.reduceLeDiff, Nat.reduceLT, Int.reduceBEq, Int.reduceBNe, Int.reduceEq, Int.reduceNe, Int.reduceLT, Int.reduceLE, Int.reduceToNat, Int.reduceAdd, Int.reduceSub, Int.reduceMul, Int.cast_ofNat_Int]
      have : hasS (opUses d) c = false := by rw [hh, List.drop_of_length_le (by omega)]; rfl
      refine drop_ext hw hext (fun n hn => ?_)
      rw [← this]; exact h n hn
end Go.Proofs.TX
/- The document's layer 6: May. -/
set_option linter.unusedSimpArgs false
set_option linter.unusedVariables false
set_option maxRecDepth 100000
set_option maxHeartbeats 4000000
namespace Go.Proofs.TX
open Go
theorem may_c' (B : World) (k x : Int) (s : St) (R : Value → St → Prop) (h : ∀ n, s.n ≤ n → R (.bool (mayV k x)) (s.more n)) : CallOK Tryz.prog B 33 #[.agg #[.int .i64 k, .int .i64 x]] s R := by
  refine call_of (.base Tryz.prog B) (fun _ => none) mixed Tryz.func33 rfl (by simp [Tryz.ntmps33]) (by kernel_rfl) fun hw => ?_
  simp (maxSteps := 2000000) -dsimp (disch := omega) only [↓Tryz.ntmps33, ↓res33, ↓xpre0, xpost0, xpost1, xpost2, xpost3, facts0, facts1, calls0, St.wf.none hw, Nat.add_assoc, ↓reduceIte, Nat.reduceEqDiff, Nat.reduceMul, Nat.reduceAdd, Nat.reduceSub, Nat.reduceLeDiff, Nat.reduceLT, Int.reduceBEq, Int.reduceBNe, Int.reduceEq, Int.reduceNe, Int.reduceLT, Int.reduceLE, Int.reduceToNat, Int.reduceAdd, Int.reduceSub, Int.reduceMul, Int.cast_ofNat_Int]
  have fin : ∀ (t : St) (b : Bool), Ext s t → b = mayV k x → Drop R (.bool b) t := by
    rintro t b he rfl
    exact drop_ext hw he h
  (repeat' (first | apply And.intro | intro _))
  all_goals
    refine fin _ _ ?_ ?_
    · (repeat (first | with_reducible exact Ext.refl _ | with_reducible assumption | refine Ext.lay ?_ _ _ _ (by omega) (by first | omega | (simp only [lay_n, upd_n, more_n, froz_n]; omega)) | refine Ext.upd ?_ _ _ (by omega) | refine Ext.more ?_ _ (by first | omega | (simp only [lay_n, upd_n, more_n, froz_n]; omega)) | refine Ext.frz ?_ hw _ _ _ (by omega) (by first | omega | (simp only [lay_n, upd_n, more_n, froz_n]; omega))))
    · first
      | (simp_all [mayV]; done)
      | (simp_all [mayV]; omega)
      | (subst_vars; simp [mayV]; by_cases h0 : x = 0 <;> simp [h0])
end Go.Proofs.TX
/- The document's layer 34: Num, With. -/
set_option linter.unusedSimpArgs false
set_option linter.unusedVariables false
set_option maxRecDepth 100000
set_option maxHeartbeats 4000000
namespace Go.Proofs.TX
open Go
theorem num_c' (B : World) (o : OpS) (c : Int) (s : St) (R : Value → St → Prop) (h : ∀ n, s.n ≤ n → R (.int .i64 (numS o c)) (s.more n)) : CallOK Tryz.prog B 38 #[o.val, .int .u8 c] s R := by
  refine call_of (.base Tryz.prog B) (fun _ => none) mixed Tryz.func38 rfl (by simp [Tryz.ntmps38]) (by kernel_rfl) fun hw => ?_
  simp (maxSteps := 2000000) -dsimp (disch := omega) only [OpS.cells, ↓Tryz.ntmps38, ↓res38, ↓xpre0, xpost0, xpost1, xpost2, xpost3, facts0, facts1, calls0, St.wf.none hw, Nat.add_assoc, ↓reduceIte, Nat.reduceEqDiff, Nat.reduceMul, Nat.reduceAdd, Nat.reduceSub, Nat.reduceLeDiff, Nat.reduceLT, Int.reduceBEq, Int.reduceBNe, Int.reduceEq, Int.reduceNe, Int.reduceLT, Int.reduceLE, Int.reduceToNat, Int.reduceAdd, Int.reduceSub, Int.reduceMul, Int.cast_ofNat_Int]
  have fin : ∀ (t : St) (b : Int), Ext s t → b = numS o c → Drop R (.int .i64 b) t := by
    rintro t b he rfl
    exact drop_ext hw he h
  (repeat' (first | apply And.intro | intro _))
  all_goals
    refine fin _ _ ?_ ?_
    · (repeat (first | with_reducible exact Ext.refl _ | with_reducible assumption | refine Ext.lay ?_ _ _ _ (by omega) (by first | omega | (simp only [lay_n, upd_n, more_n, froz_n]; omega)) | refine Ext.upd ?_ _ _ (by omega) | refine Ext.more ?_ _ (by first | omega | (simp only [lay_n, upd_n, more_n, froz_n]; omega)) | refine Ext.frz ?_ hw _ _ _ (by omega) (by first | omega | (simp only [lay_n, upd_n, more_n, froz_n]; omega))))
    · simp_all [numS]
/-- a number into the field of a letter -/
def withS (o : OpS) (c n : Int) : OpS := if c = 107 then { o with kind := n } else if c = 102 then { o with fields := n } else if c = 114 then { o with raws := n } else if c = 104 then { o with h := n } else if c = 103 then { o with g := n } else { o with i := n }
theorem with_c' (B : World) (o : OpS) (c n : Int) (s : St) (R : Value → St → Prop) (h : ∀ m, s.n ≤ m → R (withS o c n).val (s.more m)) : CallOK Tryz.prog B 44 #[o.val, .int .u8 c, .int .i64 n] s R := by
  refine call_of (.base Tryz.prog B) (fun _ => none) mixed Tryz.func44 rfl (by simp [Tryz.ntmps44]) (by kernel_rfl) fun hw => ?_
  simp (maxSteps := 2000000) -dsimp (disch := omega) only [OpS.cells, ↓Tryz.ntmps44, ↓res44, ↓xpre0, xpost0, xpost1, xpost2, xpost3, facts0, facts1, calls0, St.wf.none hw, Nat.add_assoc, ↓reduceIte, Nat.reduceEqDiff, Nat.reduceMul, Nat.reduceAdd, Nat.reduceSub, Nat.reduceLeDiff, Nat.reduceLT, Int.reduceBEq, Int.reduceBNe, Int.reduceEq, Int.reduceNe, Int.reduceLT, Int.reduceLE, Int.reduceToNat, Int.reduceAdd, Int.reduceSub, Int.reduceMul, Int.cast_ofNat_Int]
  have fin : ∀ (t : St) (q : OpS), Ext s t → q = withS o c n → Drop R q.val t := by
    rintro t q he rfl
    exact drop_ext hw he h
  (repeat' (first | apply And.intro | intro _))
  all_goals
    refine drop_ext hw ?_ (fun m hm => ?_)
    · (repeat (first | with_reducible exact Ext.refl _ | with_reducible assumption | refine Ext.lay ?_ _ _ _ (by omega) (by first | omega | (simp only [lay_n, upd_n, more_n, froz_n]; omega)) | refine Ext.upd ?_ _ _ (by omega) | refine Ext.more ?_ _ (by first | omega | (simp only [lay_n, upd_n, more_n, froz_n]; omega)) | refine Ext.frz ?_ hw _ _ _ (by omega) (by first | omega | (simp only [lay_n, upd_n, more_n, froz_n]; omega))))
    · have := h m hm
      unfold withS at this
      (repeat' split at this) <;> first | exact this | contradiction
end Go.Proofs.TX
