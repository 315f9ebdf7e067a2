/- The document's layer 31: Plain. -/
import Derived.Test.YtfndoonmgilklaaGreatDoorXT18
set_option linter.unusedSimpArgs false
set_option linter.unusedVariables false
set_option maxRecDepth 100000
set_option maxHeartbeats 4000000
namespace Go.Proofs.TX
open Go
noncomputable def ePlain (B : World) : Env Tryz.prog := (Env.base Tryz.prog B).ext 56 (.fn hasF) (has_c B)
theorem ePlain_56 (B : World) (d c : Int) (s : St) (K : Kp (Value → St → Prop)) : XCallOK Tryz.prog (ePlain B) 56 #[.int .i64 d, .int .u8 c] s K = XMore s (.bool (hasS (opUses d) c)) K := rfl
theorem plain31_c' (B : World) (o : OpS) (s : St) (R : Value → St → Prop) (h : ∀ n, s.n ≤ n → R (plainS o).val (s.more n)) : CallOK Tryz.prog B 32 #[o.val] s R := by
  obtain ⟨d, hh, g, i, vk, vx, w, kind, fields, raws, policy⟩ := o
  have hc : (¬ (1 ≤ d ∧ d ≤ 10)) ∨ d = 1 ∨ d = 2 ∨ d = 3 ∨ d = 4 ∨ d = 5 ∨ d = 6 ∨ d = 7 ∨ d = 8 ∨ d = 9 ∨ d = 10 := by omega
  rcases hc with hc | rfl | rfl | rfl | rfl | rfl | rfl | rfl | rfl | rfl | rfl
  · have hu : opUses d = [] := (opName_none hc).2.1
    have hp : plainS ⟨d, hh, g, i, vk, vx, w, kind, fields, raws, policy⟩ = .zero d := by unfold plainS; rw [show (OpS.mk d hh g i vk vx w kind fields raws policy).dO = d from rfl, hu]; rfl
    rw [hp] at h
    have f0 : hasS (opUses d) 107 = false := by rw [hu]; rfl
    have f1 : hasS (opUses d) 112 = false := by rw [hu]; rfl
    have f2 : hasS (opUses d) 104 = false := by rw [hu]; rfl
    have f3 : hasS (opUses d) 103 = false := by rw [hu]; rfl
    have f4 : hasS (opUses d) 105 = false := by rw [hu]; rfl
    have f5 : hasS (opUses d) 118 = false := by rw [hu]; rfl
    have f6 : hasS (opUses d) 119 = false := by rw [hu]; rfl
    refine call_of (ePlain B) (fun _ => none) mixed Tryz.func32 rfl (by simp [Tryz.ntmps32]) (by kernel_rfl) fun hw => ?_
    simp (maxSteps := 2000000) -dsimp (disch := omega) only [OpS.cells, ePlain_56, f0, f1, f2, f3, f4, f5, f6, ↓Tryz.ntmps32, ↓res32, ↓xpre0, xpost0, xpost1, xpost2, xpost3, facts0, facts1, calls0, St.wf.none hw, Nat.add_assoc, ↓reduceIte, Nat.reduceEqDiff, Nat.reduceMul, Nat.reduceAdd, Nat.reduceSub, Nat.reduceLeDiff, Nat.reduceLT, Int.reduceBEq, Int.reduceBNe, Int.reduceEq, Int.reduceNe, Int.reduceLT, Int.reduceLE, Int.reduceToNat, Int.reduceAdd, Int.reduceSub, Int.reduceMul, Int.cast_ofNat_Int]
    iterate 7
      refine XMore_intro fun k => ?_
      simp (maxSteps := 2000000) -dsimp (disch := omega) only [OpS.cells, ePlain_56, f0, f1, f2, f3, f4, f5, f6, ↓Tryz.ntmps32, ↓res32, ↓xpre0, xpost0, xpost1, xpost2, xpost3, facts0, facts1, calls0, St.wf.none hw, Nat.add_assoc, ↓reduceIte, Nat.reduceEqDiff, Nat.reduceMul, Nat.reduceAdd, Nat.reduceSub, Nat.reduceLeDiff, Nat.reduceLT, Int.reduceBEq, Int.reduceBNe, Int.reduceEq, Int.reduceNe, Int.reduceLT, Int.reduceLE, Int.reduceToNat, Int.reduceAdd, Int.reduceSub, Int.reduceMul, Int.cast_ofNat_Int]
    refine drop_ext hw ?_ h
    (repeat (first | with_reducible exact Ext.refl _ | with_reducible assumption | refine Ext.lay ?_ _ _ _ (by omega) (by first | omega | (simp only [lay_n, upd_n, more_n, froz_n]; omega)) | refine Ext.upd ?_ _ _ (by omega) | refine Ext.more ?_ _ (by first | omega | (simp only [lay_n, upd_n, more_n, froz_n]; omega)) | refine Ext.frz ?_ hw _ _ _ (by omega) (by first | omega | (simp only [lay_n, upd_n, more_n, froz_n]; omega))))
  · have f0 : hasS (opUses 1) 107 = true := by rfl
    have f1 : hasS (opUses 1) 112 = true := by rfl
    have f2 : hasS (opUses 1) 104 = false := by rfl
    have f3 : hasS (opUses 1) 103 = false := by rfl
    have f4 : hasS (opUses 1) 105 = false := by rfl
    have f5 : hasS (opUses 1) 118 = false := by rfl
    have f6 : hasS (opUses 1) 119 = false := by rfl
    refine call_of (ePlain B) (fun _ => none) mixed Tryz.func32 rfl (by simp [Tryz.ntmps32]) (by kernel_rfl) fun hw => ?_
    simp (maxSteps := 2000000) -dsimp (disch := omega) only [OpS.cells, ePlain_56, f0, f1, f2, f3, f4, f5, f6, ↓Tryz.ntmps32, ↓res32, ↓xpre0, xpost0, xpost1, xpost2, xpost3, facts0, facts1, calls0, St.wf.none hw, Nat.add_assoc, ↓reduceIte, Nat.reduceEqDiff, Nat.reduceMul, Nat.reduceAdd, Nat.reduceSub, Nat.reduceLeDiff, Nat.reduceLT, Int.reduceBEq, Int.reduceBNe, Int.reduceEq, Int.reduceNe, Int.reduceLT, Int.reduceLE, Int.reduceToNat, Int.reduceAdd, Int.reduceSub, Int.reduceMul, Int.cast_ofNat_Int]
    iterate 7
      refine XMore_intro fun k => ?_
      simp (maxSteps := 2000000) -dsimp (disch := omega) only [OpS.cells, ePlain_56, f0, f1, f2, f3, f4, f5, f6, ↓Tryz.ntmps32, ↓res32, ↓xpre0, xpost0, xpost1, xpost2, xpost3, facts0, facts1, calls0, St.wf.none hw, Nat.add_assoc, ↓reduceIte, Nat.reduceEqDiff, Nat.reduceMul, Nat.reduceAdd, Nat.reduceSub, Nat.reduceLeDiff, Nat.reduceLT, Int.reduceBEq, Int.reduceBNe, Int.reduceEq, Int.reduceNe, Int.reduceLT, Int.reduceLE, Int.reduceToNat, Int.reduceAdd, Int.reduceSub, Int.reduceMul, Int.cast_ofNat_Int]
    refine drop_ext hw ?_ h
    (repeat (first | with_reducible exact Ext.refl _ | with_reducible assumption | refine Ext.lay ?_ _ _ _ (by omega) (by first | omega | (simp only [lay_n, upd_n, more_n, froz_n]; omega)) | refine Ext.upd ?_ _ _ (by omega) | refine Ext.more ?_ _ (by first | omega | (simp only [lay_n, upd_n, more_n, froz_n]; omega)) | refine Ext.frz ?_ hw _ _ _ (by omega) (by first | omega | (simp only [lay_n, upd_n, more_n, froz_n]; omega))))
  · have f0 : hasS (opUses 2) 107 = false := by rfl
    have f1 : hasS (opUses 2) 112 = false := by rfl
    have f2 : hasS (opUses 2) 104 = true := by rfl
    have f3 : hasS (opUses 2) 103 = false := by rfl
    have f4 : hasS (opUses 2) 105 = true := by rfl
    have f5 : hasS (opUses 2) 118 = false := by rfl
    have f6 : hasS (opUses 2) 119 = false := by rfl
    refine call_of (ePlain B) (fun _ => none) mixed Tryz.func32 rfl (by simp [Tryz.ntmps32]) (by kernel_rfl) fun hw => ?_
    simp (maxSteps := 2000000) -dsimp (disch := omega) only [OpS.cells, ePlain_56, f0, f1, f2, f3, f4, f5, f6, ↓Tryz.ntmps32, ↓res32, ↓xpre0, xpost0, xpost1, xpost2, xpost3, facts0, facts1, calls0, St.wf.none hw, Nat.add_assoc, ↓reduceIte, Nat.reduceEqDiff, Nat.reduceMul, Nat.reduceAdd, Nat.reduceSub, Nat.reduceLeDiff, Nat.reduceLT, Int.reduceBEq, Int.reduceBNe, Int.reduceEq, Int.reduceNe, Int.reduceLT, Int.reduceLE, Int.reduceToNat, Int.reduceAdd, Int.reduceSub, Int.reduceMul, Int.cast_ofNat_Int]
    iterate 7
      refine XMore_intro fun k => ?_
      simp (maxSteps := 2000000) -dsimp (disch := omega) only [OpS.cells, ePlain_56, f0, f1, f2, f3, f4, f5, f6, ↓Tryz.ntmps32, ↓res32, ↓xpre0, xpost0, xpost1, xpost2, xpost3, facts0, facts1, calls0, St.wf.none hw, Nat.add_assoc, ↓reduceIte, Nat.reduceEqDiff, Nat.reduceMul, Nat.reduceAdd, Nat.reduceSub, Nat.reduceLeDiff, Nat.reduceLT, Int.reduceBEq, Int.reduceBNe, Int.reduceEq, Int.reduceNe, Int.reduceLT, Int.reduceLE, Int.reduceToNat, Int.reduceAdd, Int.reduceSub, Int.reduceMul, Int.cast_ofNat_Int]
    refine drop_ext hw ?_ h
    (repeat (first | with_reducible exact Ext.refl _ | with_reducible assumption | refine Ext.lay ?_ _ _ _ (by omega) (by first | omega | (simp only [lay_n, upd_n, more_n, froz_n]; omega)) | refine Ext.upd ?_ _ _ (by omega) | refine Ext.more ?_ _ (by first | omega | (simp only [lay_n, upd_n, more_n, froz_n]; omega)) | refine Ext.frz ?_ hw _ _ _ (by omega) (by first | omega | (simp only [lay_n, upd_n, more_n, froz_n]; omega))))
  · have f0 : hasS (opUses 3) 107 = false := by rfl
    have f1 : hasS (opUses 3) 112 = false := by rfl
    have f2 : hasS (opUses 3) 104 = true := by rfl
    have f3 : hasS (opUses 3) 103 = false := by rfl
    have f4 : hasS (opUses 3) 105 = true := by rfl
    have f5 : hasS (opUses 3) 118 = true := by rfl
    have f6 : hasS (opUses 3) 119 = false := by rfl
    refine call_of (ePlain B) (fun _ => none) mixed Tryz.func32 rfl (by simp [Tryz.ntmps32]) (by kernel_rfl) fun hw => ?_
    simp (maxSteps := 2000000) -dsimp (disch := omega) only [OpS.cells, ePlain_56, f0, f1, f2, f3, f4, f5, f6, ↓Tryz.ntmps32, ↓res32, ↓xpre0, xpost0, xpost1, xpost2, xpost3, facts0, facts1, calls0, St.wf.none hw, Nat.add_assoc, ↓reduceIte, Nat.reduceEqDiff, Nat.reduceMul, Nat.reduceAdd, Nat.reduceSub, Nat.reduceLeDiff, Nat.reduceLT, Int.reduceBEq, Int.reduceBNe, Int.reduceEq, Int.reduceNe, Int.reduceLT, Int.reduceLE, Int.reduceToNat, Int.reduceAdd, Int.reduceSub, Int.reduceMul, Int.cast_ofNat_Int]
    iterate 7
      refine XMore_intro fun k => ?_
      simp (maxSteps := 2000000) -dsimp (disch := omega) only [OpS.cells, ePlain_56, f0, f1, f2, f3, f4, f5, f6, ↓Tryz.ntmps32, ↓res32, ↓xpre0, xpost0, xpost1, xpost2, xpost3, facts0, facts1, calls0, St.wf.none hw, Nat.add_assoc, ↓reduceIte, Nat.reduceEqDiff, Nat.reduceMul, Nat.reduceAdd, Nat.reduceSub, Nat.reduceLeDiff, Nat.reduceLT, Int.reduceBEq, Int.reduceBNe, Int.reduceEq, Int.reduceNe, Int.reduceLT, Int.reduceLE, Int.reduceToNat, Int.reduceAdd, Int.reduceSub, Int.reduceMul, Int.cast_ofNat_Int]
    refine drop_ext hw ?_ h
    (repeat (first | with_reducible exact Ext.refl _ | with_reducible assumption | refine Ext.lay ?_ _ _ _ (by omega) (by first | omega | (simp only [lay_n, upd_n, more_n, froz_n]; omega)) | refine Ext.upd ?_ _ _ (by omega) | refine Ext.more ?_ _ (by first | omega | (simp only [lay_n, upd_n, more_n, froz_n]; omega)) | refine Ext.frz ?_ hw _ _ _ (by omega) (by first | omega | (simp only [lay_n, upd_n, more_n, froz_n]; omega))))
  · have f0 : hasS (opUses 4) 107 = false := by rfl
    have f1 : hasS (opUses 4) 112 = false := by rfl
    have f2 : hasS (opUses 4) 104 = true := by rfl
    have f3 : hasS (opUses 4) 103 = false := by rfl
    have f4 : hasS (opUses 4) 105 = true := by rfl
    have f5 : hasS (opUses 4) 118 = false := by rfl
    have f6 : hasS (opUses 4) 119 = false := by rfl
    refine call_of (ePlain B) (fun _ => none) mixed Tryz.func32 rfl (by simp [Tryz.ntmps32]) (by kernel_rfl) fun hw => ?_
    simp (maxSteps := 2000000) -dsimp (disch := omega) only [OpS.cells, ePlain_56, f0, f1, f2, f3, f4, f5, f6, ↓Tryz.ntmps32, ↓res32, ↓xpre0, xpost0, xpost1, xpost2, xpost3, facts0, facts1, calls0, St.wf.none hw, Nat.add_assoc, ↓reduceIte, Nat.reduceEqDiff, Nat.reduceMul, Nat.reduceAdd, Nat.reduceSub, Nat.reduceLeDiff, Nat.reduceLT, Int.reduceBEq, Int.reduceBNe, Int.reduceEq, Int.reduceNe, Int.reduceLT, Int.reduceLE, Int.reduceToNat, Int.reduceAdd, Int.reduceSub, Int.reduceMul, Int.cast_ofNat_Int]
    iterate 7
      refine XMore_intro fun k => ?_
      simp (maxSteps := 2000000) -dsimp (disch := omega) only [OpS.cells, ePlain_56, f0, f1, f2, f3, f4, f5, f6, ↓Tryz.ntmps32, ↓res32, ↓xpre0, xpost0, xpost1, xpost2, xpost3, facts0, facts1, calls0, St.wf.none hw, Nat.add_assoc, ↓reduceIte, Nat.reduceEqDiff, Nat.reduceMul, Nat.reduceAdd, Nat.reduceSub, Nat.reduceLeDiff, Nat.reduceLT, Int.reduceBEq, Int.reduceBNe, Int.reduceEq, Int.reduceNe, Int.reduceLT, Int.reduceLE, Int.reduceToNat, Int.reduceAdd, Int.reduceSub, Int.reduceMul, Int.cast_ofNat_Int]
    refine drop_ext hw ?_ h
    (repeat (first | with_reducible exact Ext.refl _ | with_reducible assumption | refine Ext.lay ?_ _ _ _ (by omega) (by first | omega | (simp only [lay_n, upd_n, more_n, froz_n]; omega)) | refine Ext.upd ?_ _ _ (by omega) | refine Ext.more ?_ _ (by first | omega | (simp only [lay_n, upd_n, more_n, froz_n]; omega)) | refine Ext.frz ?_ hw _ _ _ (by omega) (by first | omega | (simp only [lay_n, upd_n, more_n, froz_n]; omega))))
  · have f0 : hasS (opUses 5) 107 = false := by rfl
    have f1 : hasS (opUses 5) 112 = false := by rfl
    have f2 : hasS (opUses 5) 104 = true := by rfl
    have f3 : hasS (opUses 5) 103 = false := by rfl
    have f4 : hasS (opUses 5) 105 = true := by rfl
    have f5 : hasS (opUses 5) 118 = false := by rfl
    have f6 : hasS (opUses 5) 119 = true := by rfl
    refine call_of (ePlain B) (fun _ => none) mixed Tryz.func32 rfl (by simp [Tryz.ntmps32]) (by kernel_rfl) fun hw => ?_
    simp (maxSteps := 2000000) -dsimp (disch := omega) only [OpS.cells, ePlain_56, f0, f1, f2, f3, f4, f5, f6, ↓Tryz.ntmps32, ↓res32, ↓xpre0, xpost0, xpost1, xpost2, xpost3, facts0, facts1, calls0, St.wf.none hw, Nat.add_assoc, ↓reduceIte, Nat.reduceEqDiff, Nat.reduceMul, Nat.reduceAdd, Nat.reduceSub, Nat.reduceLeDiff, Nat.reduceLT, Int.reduceBEq, Int.reduceBNe, Int.reduceEq, Int.reduceNe, Int.reduceLT, Int.reduceLE, Int.reduceToNat, Int.reduceAdd, Int.reduceSub, Int.reduceMul, Int.cast_ofNat_Int]
    iterate 7
      refine XMore_intro fun k => ?_
      simp (maxSteps := 2000000) -dsimp (disch := omega) only [OpS.cells, ePlain_56, f0, f1, f2, f3, f4, f5, f6, ↓Tryz.ntmps32, ↓res32, ↓xpre0, xpost0, xpost1, xpost2, xpost3, facts0, facts1, calls0, St.wf.none hw, Nat.add_assoc, ↓reduceIte, Nat.reduceEqDiff, Nat.reduceMul, Nat.reduceAdd, Nat.reduceSub, Nat.reduceLeDiff, Nat.reduceLT, Int.reduceBEq, Int.reduceBNe, Int.reduceEq, Int.reduceNe, Int.reduceLT, Int.reduceLE, Int.reduceToNat, Int.reduceAdd, Int.reduceSub, Int.reduceMul, Int.cast_ofNat_Int]
    refine drop_ext hw ?_ h
    (repeat (first | with_reducible exact Ext.refl _ | with_reducible assumption | refine Ext.lay ?_ _ _ _ (by omega) (by first | omega | (simp only [lay_n, upd_n, more_n, froz_n]; omega)) | refine Ext.upd ?_ _ _ (by omega) | refine Ext.more ?_ _ (by first | omega | (simp only [lay_n, upd_n, more_n, froz_n]; omega)) | refine Ext.frz ?_ hw _ _ _ (by omega) (by first | omega | (simp only [lay_n, upd_n, more_n, froz_n]; omega))))
  · have f0 : hasS (opUses 6) 107 = false := by rfl
    have f1 : hasS (opUses 6) 112 = false := by rfl
    have f2 : hasS (opUses 6) 104 = true := by rfl
    have f3 : hasS (opUses 6) 103 = true := by rfl
    have f4 : hasS (opUses 6) 105 = false := by rfl
    have f5 : hasS (opUses 6) 118 = false := by rfl
    have f6 : hasS (opUses 6) 119 = false := by rfl
    refine call_of (ePlain B) (fun _ => none) mixed Tryz.func32 rfl (by simp [Tryz.ntmps32]) (by kernel_rfl) fun hw => ?_
    simp (maxSteps := 2000000) -dsimp (disch := omega) only [OpS.cells, ePlain_56, f0, f1, f2, f3, f4, f5, f6, ↓Tryz.ntmps32, ↓res32, ↓xpre0, xpost0, xpost1, xpost2, xpost3, facts0, facts1, calls0, St.wf.none hw, Nat.add_assoc, ↓reduceIte, Nat.reduceEqDiff, Nat.reduceMul, Nat.reduceAdd, Nat.reduceSub, Nat.reduceLeDiff, Nat.reduceLT, Int.reduceBEq, Int.reduceBNe, Int.reduceEq, Int.reduceNe, Int.reduceLT, Int.reduceLE, Int.reduceToNat, Int.reduceAdd, Int.reduceSub, Int.reduceMul, Int.cast_ofNat_Int]
    iterate 7
      refine XMore_intro fun k => ?_
      simp (maxSteps := 2000000) -dsimp (disch := omega) only [OpS.cells, ePlain_56, f0, f1, f2, f3, f4, f5, f6, ↓Tryz.ntmps32, ↓res32, ↓xpre0, xpost0, xpost1, xpost2, xpost3, facts0, facts1, calls0, St.wf.none hw, Nat.add_assoc, ↓reduceIte, Nat.reduceEqDiff, Nat.reduceMul, Nat.reduceAdd, Nat.reduceSub, Nat.reduceLeDiff, Nat.reduceLT, Int.reduceBEq, Int.reduceBNe, Int.reduceEq, Int.reduceNe, Int.reduceLT, Int.reduceLE, Int.reduceToNat, Int.reduceAdd, Int.reduceSub, Int.reduceMul, Int.cast_ofNat_Int]
    refine drop_ext hw ?_ h
    (repeat (first | with_reducible exact Ext.refl _ | with_reducible assumption | refine Ext.lay ?_ _ _ _ (by omega) (by first | omega | (simp only [lay_n, upd_n, more_n, froz_n]; omega)) | refine Ext.upd ?_ _ _ (by omega) | refine Ext.more ?_ _ (by first | omega | (simp only [lay_n, upd_n, more_n, froz_n]; omega)) | refine Ext.frz ?_ hw _ _ _ (by omega) (by first | omega | (simp only [lay_n, upd_n, more_n, froz_n]; omega))))
  · have f0 : hasS (opUses 7) 107 = false := by rfl
    have f1 : hasS (opUses 7) 112 = false := by rfl
    have f2 : hasS (opUses 7) 104 = true := by rfl
    have f3 : hasS (opUses 7) 103 = false := by rfl
    have f4 : hasS (opUses 7) 105 = false := by rfl
    have f5 : hasS (opUses 7) 118 = false := by rfl
    have f6 : hasS (opUses 7) 119 = false := by rfl
    refine call_of (ePlain B) (fun _ => none) mixed Tryz.func32 rfl (by simp [Tryz.ntmps32]) (by kernel_rfl) fun hw => ?_
    simp (maxSteps := 2000000) -dsimp (disch := omega) only [OpS.cells, ePlain_56, f0, f1, f2, f3, f4, f5, f6, ↓Tryz.ntmps32, ↓res32, ↓xpre0, xpost0, xpost1, xpost2, xpost3, facts0, facts1, calls0, St.wf.none hw, Nat.add_assoc, ↓reduceIte, Nat.reduceEqDiff, Nat.reduceMul, Nat.reduceAdd, Nat.reduceSub, Nat.reduceLeDiff, Nat.reduceLT, Int.reduceBEq, Int.reduceBNe, Int.reduceEq, Int.reduceNe, Int.reduceLT, Int.reduceLE, Int.reduceToNat, Int.reduceAdd, Int.reduceSub, Int.reduceMul, Int.cast_ofNat_Int]
    iterate 7
      refine XMore_intro fun k => ?_
      simp (maxSteps := 2000000) -dsimp (disch := omega) only [OpS.cells, ePlain_56, f0, f1, f2, f3, f4, f5, f6, ↓Tryz.ntmps32, ↓res32, ↓xpre0, xpost0, xpost1, xpost2, xpost3, facts0, facts1, calls0, St.wf.none hw, Nat.add_assoc, ↓reduceIte, Nat.reduceEqDiff, Nat.reduceMul, Nat.reduceAdd, Nat.reduceSub, Nat.reduceLeDiff, Nat.reduceLT, Int.reduceBEq, Int.reduceBNe, Int.reduceEq, Int.reduceNe, Int.reduceLT, Int.reduceLE, Int.reduceToNat, Int.reduceAdd, Int.reduceSub, Int.reduceMul, Int.cast_ofNat_Int]
    refine drop_ext hw ?_ h
    (repeat (first | with_reducible exact Ext.refl _ | with_reducible assumption | refine Ext.lay ?_ _ _ _ (by omega) (by first | omega | (simp only [lay_n, upd_n, more_n, froz_n]; omega)) | refine Ext.upd ?_ _ _ (by omega) | refine Ext.more ?_ _ (by first | omega | (simp only [lay_n, upd_n, more_n, froz_n]; omega)) | refine Ext.frz ?_ hw _ _ _ (by omega) (by first | omega | (simp only [lay_n, upd_n, more_n, froz_n]; omega))))
  · have f0 : hasS (opUses 8) 107 = false := by rfl
    have f1 : hasS (opUses 8) 112 = false := by rfl
    have f2 : hasS (opUses 8) 104 = true := by rfl
    have f3 : hasS (opUses 8) 103 = false := by rfl
    have f4 : hasS (opUses 8) 105 = false := by rfl
    have f5 : hasS (opUses 8) 118 = false := by rfl
    have f6 : hasS (opUses 8) 119 = false := by rfl
    refine call_of (ePlain B) (fun _ => none) mixed Tryz.func32 rfl (by simp [Tryz.ntmps32]) (by kernel_rfl) fun hw => ?_
    simp (maxSteps := 2000000) -dsimp (disch := omega) only [OpS.cells, ePlain_56, f0, f1, f2, f3, f4, f5, f6, ↓Tryz.ntmps32, ↓res32, ↓xpre0, xpost0, xpost1, xpost2, xpost3, facts0, facts1, calls0, St.wf.none hw, Nat.add_assoc, ↓reduceIte, Nat.reduceEqDiff, Nat.reduceMul, Nat.reduceAdd, Nat.reduceSub, Nat.reduceLeDiff, Nat.reduceLT, Int.reduceBEq, Int.reduceBNe, Int.reduceEq, Int.reduceNe, Int.reduceLT, Int.reduceLE, Int.reduceToNat, Int.reduceAdd, Int.reduceSub, Int.reduceMul, Int.cast_ofNat_Int]
    iterate 7
      refine XMore_intro fun k => ?_
      simp (maxSteps := 2000000) -dsimp (disch := omega) only [OpS.cells, ePlain_56, f0, f1, f2, f3, f4, f5, f6, ↓Tryz.ntmps32, ↓res32, ↓xpre0, xpost0, xpost1, xpost2, xpost3, facts0, facts1, calls0, St.wf.none hw, Nat.add_assoc, ↓reduceIte, Nat.reduceEqDiff, Nat.reduceMul, Nat.reduceAdd, Nat.reduceSub, Nat.reduceLeDiff, Nat.reduceLT, Int.reduceBEq, Int.reduceBNe, Int.reduceEq, Int.reduceNe, Int.reduceLT, Int.reduceLE, Int.reduceToNat, Int.reduceAdd, Int.reduceSub, Int.reduceMul, Int.cast_ofNat_Int]
    refine drop_ext hw ?_ h
    (repeat (first | with_reducible exact Ext.refl _ | with_reducible assumption | refine Ext.lay ?_ _ _ _ (by omega) (by first | omega | (simp only [lay_n, upd_n, more_n, froz_n]; omega)) | refine Ext.upd ?_ _ _ (by omega) | refine Ext.more ?_ _ (by first | omega | (simp only [lay_n, upd_n, more_n, froz_n]; omega)) | refine Ext.frz ?_ hw _ _ _ (by omega) (by first | omega | (simp only [lay_n, upd_n, more_n, froz_n]; omega))))
  · have f0 : hasS (opUses 9) 107 = false := by rfl
    have f1 : hasS (opUses 9) 112 = true := by rfl
    have f2 : hasS (opUses 9) 104 = false := by rfl
    have f3 : hasS (opUses 9) 103 = false := by rfl
    have f4 : hasS (opUses 9) 105 = false := by rfl
    have f5 : hasS (opUses 9) 118 = false := by rfl
    have f6 : hasS (opUses 9) 119 = false := by rfl
    refine call_of (ePlain B) (fun _ => none) mixed Tryz.func32 rfl (by simp [Tryz.ntmps32]) (by kernel_rfl) fun hw => ?_
    simp (maxSteps := 2000000) -dsimp (disch := omega) only [OpS.cells, ePlain_56, f0, f1, f2, f3, f4, f5, f6, ↓Tryz.ntmps32, ↓res32, ↓xpre0, xpost0, xpost1, xpost2, xpost3, facts0, facts1, calls0, St.wf.none hw, Nat.add_assoc, ↓reduceIte, Nat.reduceEqDiff, Nat.reduceMul, Nat.reduceAdd, Nat.reduceSub, Nat.reduceLeDiff, Nat.reduceLT, Int.reduceBEq, Int.reduceBNe, Int.reduceEq, Int.reduceNe, Int.reduceLT, Int.reduceLE, Int.reduceToNat, Int.reduceAdd, Int.reduceSub, Int.reduceMul, Int.cast_ofNat_Int]
    iterate 7
      refine XMore_intro fun k => ?_
      simp (maxSteps := 2000000) -dsimp (disch := omega) only [OpS.cells, ePlain_56, f0, f1, f2, f3, f4, f5, f6, ↓Tryz.ntmps32, ↓res32, ↓xpre0, xpost0, xpost1, xpost2, xpost3, facts0, facts1, calls0, St.wf.none hw, Nat.add_assoc, ↓reduceIte, Nat.reduceEqDiff, Nat.reduceMul, Nat.reduceAdd, Nat.reduceSub, Nat.reduceLeDiff, Nat.reduceLT, Int.reduceBEq, Int.reduceBNe, Int.reduceEq, Int.reduceNe, Int.reduceLT, Int.reduceLE, Int.reduceToNat, Int.reduceAdd, Int.reduceSub, Int.reduceMul, Int.cast_ofNat_Int]
    refine drop_ext hw ?_ h
    (repeat (first | with_reducible exact Ext.refl _ | with_reducible assumption | refine Ext.lay ?_ _ _ _ (by omega) (by first | omega | (simp only [lay_n, upd_n, more_n, froz_n]; omega)) | refine Ext.upd ?_ _ _ (by omega) | refine Ext.more ?_ _ (by first | omega | (simp only [lay_n, upd_n, more_n, froz_n]; omega)) | refine Ext.frz ?_ hw _ _ _ (by omega) (by first | omega | (simp only [lay_n, upd_n, more_n, froz_n]; omega))))
  · have f0 : hasS (opUses 10) 107 = false := by rfl
    have f1 : hasS (opUses 10) 112 = false := by rfl
    have f2 : hasS (opUses 10) 104 = true := by rfl
    have f3 : hasS (opUses 10) 103 = false := by rfl
    have f4 : hasS (opUses 10) 105 = false := by rfl
    have f5 : hasS (opUses 10) 118 = false := by rfl
    have f6 : hasS (opUses 10) 119 = false := by rfl
    refine call_of (ePlain B) (fun _ => none) mixed Tryz.func32 rfl (by simp [Tryz.ntmps32]) (by kernel_rfl) fun hw => ?_
    simp (maxSteps := 2000000) -dsimp (disch := omega) only [OpS.cells, ePlain_56, f0, f1, f2, f3, f4, f5, f6, ↓Tryz.ntmps32, ↓res32, ↓xpre0, xpost0, xpost1, xpost2, xpost3, facts0, facts1, calls0, St.wf.none hw, Nat.add_assoc, ↓reduceIte, Nat.reduceEqDiff, Nat.reduceMul, Nat.reduceAdd, Nat.reduceSub, Nat.reduceLeDiff, Nat.reduceLT, Int.reduceBEq, Int.reduceBNe, Int.reduceEq, Int.reduceNe, Int.reduceLT, Int.reduceLE, Int.reduceToNat, Int.reduceAdd, Int.reduceSub, Int.reduceMul, Int.cast_ofNat_Int]
    iterate 7
      refine XMore_intro fun k => ?_
      simp (maxSteps := 2000000) -dsimp (disch := omega) only [OpS.cells, ePlain_56, f0, f1, f2, f3, f4, f5, f6, ↓Tryz.ntmps32, ↓res32, ↓xpre0, xpost0, xpost1, xpost2, xpost3, facts0, facts1, calls0, St.wf.none hw, Nat.add_assoc, ↓reduceIte, Nat.reduceEqDiff, Nat.reduceMul, Nat.reduceAdd, Nat.reduceSub, Nat.reduceLeDiff, Nat.reduceLT, Int.reduceBEq, Int.reduceBNe, Int.reduceEq, Int.reduceNe, Int.reduceLT, Int.reduceLE, Int.reduceToNat, Int.reduceAdd, Int.reduceSub, Int.reduceMul, Int.cast_ofNat_Int]
    refine drop_ext hw ?_ h
    (repeat (first | with_reducible exact Ext.refl _ | with_reducible assumption | refine Ext.lay ?_ _ _ _ (by omega) (by first | omega | (simp only [lay_n, upd_n, more_n, froz_n]; omega)) | refine Ext.upd ?_ _ _ (by omega) | refine Ext.more ?_ _ (by first | omega | (simp only [lay_n, upd_n, more_n, froz_n]; omega)) | refine Ext.frz ?_ hw _ _ _ (by omega) (by first | omega | (simp only [lay_n, upd_n, more_n, froz_n]; omega))))
end Go.Proofs.TX
