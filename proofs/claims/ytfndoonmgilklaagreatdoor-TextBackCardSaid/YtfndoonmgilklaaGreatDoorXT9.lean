/- The document's layer 31: names, uses. -/
import Derived.Test.YtfndoonmgilklaaGreatDoorXT8
set_option linter.unusedSimpArgs false
set_option linter.unusedVariables false
set_option maxRecDepth 100000
set_option maxHeartbeats 4000000
namespace Go.Proofs.TX
open Go
def nameCells : List Value := opTab.map fun r => str r.1
def useCells : List Value := opTab.map fun r => str r.2
theorem ncell (d : Int) (h1 : 1 ≤ d) (h2 : d ≤ 10) : nameCells[0 + (IntKind.i64.wrap (d - 1)).toNat * 1]? = some (str (opName d)) ∧ useCells[0 + (IntKind.i64.wrap (d - 1)).toNat * 1]? = some (str (opUses d)) :=
  ten (p := fun d => nameCells[0 + (IntKind.i64.wrap (d - 1)).toNat * 1]? = some (str (opName d)) ∧ useCells[0 + (IntKind.i64.wrap (d - 1)).toNat * 1]? = some (str (opUses d)))
    ⟨⟨rfl, rfl⟩, ⟨rfl, rfl⟩, ⟨rfl, rfl⟩, ⟨rfl, rfl⟩, ⟨rfl, rfl⟩, ⟨rfl, rfl⟩, ⟨rfl, rfl⟩, ⟨rfl, rfl⟩, ⟨rfl, rfl⟩, ⟨rfl, rfl⟩⟩ d h1 h2
theorem name31_c (B : World) : ∀ args s K, (Spec.fn nameF).run args s K → CallOK Tryz.prog B 31 args s K.K := by
  refine fn_intro fun l v hF s R h => ?_
  unfold nameF at hF
  split at hF <;> cases hF
  rename_i d
  have hno : ¬ (1 ≤ d ∧ d ≤ 10) → ∀ n, s.n ≤ n → R (str []) (s.more n) := by
    intro hd n hn
    simpa [opName_none hd] using h n hn
  have hN := fun h1 h2 => (ncell d h1 h2).1
  simp only [nameCells, opTab, List.map_cons, List.map_nil] at hN
  refine call_of (.base Tryz.prog B) (fun _ => none) mixed Tryz.func31 rfl (by simp [Tryz.ntmps31]) (by kernel_rfl) fun hw => ?_
  simp (maxSteps := 2000000) -dsimp (disch := omega) only [↓Tryz.ntmps31, ↓res31, ↓xpre0, xpost0, xpost1, xpost2, xpost3, facts0, facts1, calls0, St.wf.none hw, Nat.add_assoc, ↓reduceIte, Nat.reduceEqDiff, Nat.reduceMul, Nat.reduceAdd, Nat.reduceSub, Nat.reduceLeDiff, Nat.reduceLT, Int.reduceBEq, Int.reduceBNe, Int.reduceEq, Int.reduceNe, Int.reduceLT, Int.reduceLE, Int.reduceToNat, Int.reduceAdd, Int.reduceSub, Int.reduceMul, Int.cast_ofNat_Int]
  (repeat' (first | apply And.intro | intro _))
  · refine drop_ext hw ?_ (hno (by omega))
    (repeat (first | with_reducible exact Ext.refl _ | with_reducible assumption | refine Ext.lay ?_ _ _ _ (by omega) (by first | omega | (simp only [lay_n, upd_n, more_n, froz_n]; omega)) | refine Ext.upd ?_ _ _ (by omega) | refine Ext.more ?_ _ (by first | omega | (simp only [lay_n, upd_n, more_n, froz_n]; omega)) | refine Ext.frz ?_ hw _ _ _ (by omega) (by first | omega | (simp only [lay_n, upd_n, more_n, froz_n]; omega))))
  · rw [wrap_i64 (by omega) (by omega)]; omega
  · rw [wrap_i64 (by omega) (by omega)]; omega
  · rw [hN (by omega) (by omega)]
    simp (maxSteps := 2000000) -dsimp (disch := omega) only [↓Tryz.ntmps31, ↓res31, ↓xpre0, xpost0, xpost1, xpost2, xpost3, facts0, facts1, calls0, St.wf.none hw, Nat.add_assoc, ↓reduceIte, Nat.reduceEqDiff, Nat.reduceMul, Nat.reduceAdd, Nat.reduceSub, Nat.reduceLeDiff, Nat.reduceLT, Int.reduceBEq, Int.reduceBNe, Int.reduceEq, Int.reduceNe, Int.reduceLT, Int.reduceLE, Int.reduceToNat, Int.reduceAdd, Int.reduceSub, Int.reduceMul, Int.cast_ofNat_Int]
    refine drop_ext hw ?_ h
    (repeat (first | with_reducible exact Ext.refl _ | with_reducible assumption | refine Ext.lay ?_ _ _ _ (by omega) (by first | omega | (simp only [lay_n, upd_n, more_n, froz_n]; omega)) | refine Ext.upd ?_ _ _ (by omega) | refine Ext.more ?_ _ (by first | omega | (simp only [lay_n, upd_n, more_n, froz_n]; omega)) | refine Ext.frz ?_ hw _ _ _ (by omega) (by first | omega | (simp only [lay_n, upd_n, more_n, froz_n]; omega))))
  · refine drop_ext hw ?_ (hno (by omega))
    (repeat (first | with_reducible exact Ext.refl _ | with_reducible assumption | refine Ext.lay ?_ _ _ _ (by omega) (by first | omega | (simp only [lay_n, upd_n, more_n, froz_n]; omega)) | refine Ext.upd ?_ _ _ (by omega) | refine Ext.more ?_ _ (by first | omega | (simp only [lay_n, upd_n, more_n, froz_n]; omega)) | refine Ext.frz ?_ hw _ _ _ (by omega) (by first | omega | (simp only [lay_n, upd_n, more_n, froz_n]; omega))))
theorem uses31_c (B : World) : ∀ args s K, (Spec.fn usesF).run args s K → CallOK Tryz.prog B 34 args s K.K := by
  refine fn_intro fun l v hF s R h => ?_
  unfold usesF at hF
  split at hF <;> cases hF
  rename_i d
  have hno : ¬ (1 ≤ d ∧ d ≤ 10) → ∀ n, s.n ≤ n → R (str []) (s.more n) := by
    intro hd n hn
    simpa [opName_none hd] using h n hn
  have hN := fun h1 h2 => (ncell d h1 h2).2
  simp only [useCells, opTab, List.map_cons, List.map_nil] at hN
  refine call_of (.base Tryz.prog B) (fun _ => none) mixed Tryz.func34 rfl (by simp [Tryz.ntmps34]) (by kernel_rfl) fun hw => ?_
  simp (maxSteps := 2000000) -dsimp (disch := omega) only [↓Tryz.ntmps34, ↓res34, ↓xpre0, xpost0, xpost1, xpost2, xpost3, facts0, facts1, calls0, St.wf.none hw, Nat.add_assoc, ↓reduceIte, Nat.reduceEqDiff, Nat.reduceMul, Nat.reduceAdd, Nat.reduceSub, Nat.reduceLeDiff, Nat.reduceLT, Int.reduceBEq, Int.reduceBNe, Int.reduceEq, Int.reduceNe, Int.reduceLT, Int.reduceLE, Int.reduceToNat, Int.reduceAdd, Int.reduceSub, Int.reduceMul, Int.cast_ofNat_Int]
  (repeat' (first | apply And.intro | intro _))
  · refine drop_ext hw ?_ (hno (by omega))
    (repeat (first | with_reducible exact Ext.refl _ | with_reducible assumption | refine Ext.lay ?_ _ _ _ (by omega) (by first | omega | (simp only [lay_n, upd_n, more_n, froz_n]; omega)) | refine Ext.upd ?_ _ _ (by omega) | refine Ext.more ?_ _ (by first | omega | (simp only [lay_n, upd_n, more_n, froz_n]; omega)) | refine Ext.frz ?_ hw _ _ _ (by omega) (by first | omega | (simp only [lay_n, upd_n, more_n, froz_n]; omega))))
  · rw [wrap_i64 (by omega) (by omega)]; omega
  · rw [wrap_i64 (by omega) (by omega)]; omega
  · rw [hN (by omega) (by omega)]
    simp (maxSteps := 2000000) -dsimp (disch := omega) only [↓Tryz.ntmps34, ↓res34, ↓xpre0, xpost0, xpost1, xpost2, xpost3, facts0, facts1, calls0, St.wf.none hw, Nat.add_assoc, ↓reduceIte, Nat.reduceEqDiff, Nat.reduceMul, Nat.reduceAdd, Nat.reduceSub, Nat.reduceLeDiff, Nat.reduceLT, Int.reduceBEq, Int.reduceBNe, Int.reduceEq, Int.reduceNe, Int.reduceLT, Int.reduceLE, Int.reduceToNat, Int.reduceAdd, Int.reduceSub, Int.reduceMul, Int.cast_ofNat_Int]
    refine drop_ext hw ?_ h
    (repeat (first | with_reducible exact Ext.refl _ | with_reducible assumption | refine Ext.lay ?_ _ _ _ (by omega) (by first | omega | (simp only [lay_n, upd_n, more_n, froz_n]; omega)) | refine Ext.upd ?_ _ _ (by omega) | refine Ext.more ?_ _ (by first | omega | (simp only [lay_n, upd_n, more_n, froz_n]; omega)) | refine Ext.frz ?_ hw _ _ _ (by omega) (by first | omega | (simp only [lay_n, upd_n, more_n, froz_n]; omega))))
  · refine drop_ext hw ?_ (hno (by omega))
    (repeat (first | with_reducible exact Ext.refl _ | with_reducible assumption | refine Ext.lay ?_ _ _ _ (by omega) (by first | omega | (simp only [lay_n, upd_n, more_n, froz_n]; omega)) | refine Ext.upd ?_ _ _ (by omega) | refine Ext.more ?_ _ (by first | omega | (simp only [lay_n, upd_n, more_n, froz_n]; omega)) | refine Ext.frz ?_ hw _ _ _ (by omega) (by first | omega | (simp only [lay_n, upd_n, more_n, froz_n]; omega))))
end Go.Proofs.TX
