/- The op of a name, twice. -/
import Derived.Test.YtfndoonmgilklaaGreatDoorXT9
set_option linter.unusedSimpArgs false
set_option linter.unusedVariables false
set_option maxRecDepth 100000
set_option maxHeartbeats 4000000
namespace Go.Proofs.TX
open Go
def ofFrom (l : Bs) : Nat → Nat → Int
  | 0, _ => 0
  | f + 1, i => if opName ((i : Int) + 1) = l then (i : Int) + 1 else ofFrom l f (i + 1)
/-- the op of a name -/
def ofS (l : Bs) : Int := ofFrom l 10 0
def opOfF : List Value → Option Value
  | [.string a] => some (.int .i64 (ofS a.data.toList))
  | _ => none
noncomputable def eOf31 (B : World) : Env Tryz.prog := (Env.base Tryz.prog B).ext 31 (.fn nameF) (name31_c B)
theorem eOf31_31 (B : World) (d : Int) (s : St) (K : Kp (Value → St → Prop)) : XCallOK Tryz.prog (eOf31 B) 31 #[.int .i64 d] s K = ∀ k, K.K (str (opName d)) (s.more (s.n + k)) := rfl
theorem of31_c (B : World) : ∀ args s K, (Spec.fn opOfF).run args s K → CallOK Tryz.prog B 40 args s K.K := by
  refine fn_intro fun l v hF s R h => ?_
  unfold opOfF at hF
  split at hF <;> cases hF
  rename_i a
  obtain ⟨l, rfl⟩ : ∃ l : Bs, a = ⟨l.toArray⟩ := ⟨a.data.toList, by simp⟩
  have e0 : (ByteArray.mk l.toArray).data.toList = l := by simp
  rw [e0] at h
  refine call_of (eOf31 B) (fun _ => none) mixed Tryz.func40 rfl (by simp [Tryz.ntmps40]) (by kernel_rfl) fun hw => ?_
  simp (maxSteps := 2000000) -dsimp (disch := omega) only [↓Tryz.ntmps40, ↓res40, ↓xpre0, xpost0, xpost1, xpost2, xpost3, facts0, facts1, calls0, St.wf.none hw, Nat.add_assoc, ↓reduceIte, Nat.reduceEqDiff, Nat.reduceMul, Nat.reduceAdd, Nat.reduceSub, Nat.reduceLeDiff, Nat.reduceLT, Int.reduceBEq, Int.reduceBNe, Int.reduceEq, Int.reduceNe, Int.reduceLT, Int.reduceLE, Int.reduceToNat, Int.reduceAdd, Int.reduceSub, Int.reduceMul, Int.cast_ofNat_Int]
  refine loop_wf (pl := fun _ => none) mixed (by kernel_rfl) (fun m fr t => ∃ i, i ≤ 10 ∧ m = 10 - i ∧ Ext s t ∧ fr.ds = [] ∧ fr.ρ 0 = str l ∧ fr.ρ 3 = .int .i64 ((i : Nat) + 1) ∧ ofS l = ofFrom l (10 - i) i) 10 ?_ ?_
  · exact ⟨0, by omega, by omega, Ext.refl s, rfl, rfl, rfl, rfl⟩
  · rintro m fr t ht ⟨i, hi, rfl, hext, hds, h0, h3, hof⟩
    have hinj := fun x y : Bs => bs_inj x y
    by_cases hlt : i < 10
    · have hlt' : (i : Int) + 1 ≤ 10 := by omega
      have hwr : IntKind.i64.wrap ((i : Int) + 1 + 1) = ((i + 1 : Nat) : Int) + 1 := by rw [wrap_i64 (by omega) (by omega)]; omega
      simp (maxSteps := 2000000) -dsimp (disch := omega) only [h0, h3, hds, hlt', eOf31_31, hwr, bs_inj, ↓Tryz.ntmps40, ↓res40, ↓xpre0, xpost0, xpost1, xpost2, xpost3, facts0, facts1, calls0, St.wf.none hw, Nat.add_assoc, ↓reduceIte, Nat.reduceEqDiff, Nat.reduceMul, Nat.reduceAdd, Nat.reduceSub, Nat.reduceLeDiff, Nat.reduceLT, Int.reduceBEq, Int.reduceBNe, Int.reduceEq, Int.reduceNe, Int.reduceLT, Int.reduceLE, Int.reduceToNat, Int.reduceAdd, Int.reduceSub, Int.reduceMul, Int.cast_ofNat_Int]
      rw [show 10 - i = (9 - i) + 1 by omega, ofFrom] at hof
      intro k
      refine ⟨fun e => ?_, fun e => ?_⟩
      · rw [if_pos e] at hof
        refine drop_ext hw ?_ (fun n hn => ?_)
        · (repeat (first | with_reducible exact Ext.refl _ | with_reducible assumption | refine Ext.lay ?_ _ _ _ (by omega) (by first | omega | (simp only [lay_n, upd_n, more_n, froz_n]; omega)) | refine Ext.upd ?_ _ _ (by omega) | refine Ext.more ?_ _ (by first | omega | (simp only [lay_n, upd_n, more_n, froz_n]; omega)) | refine Ext.frz ?_ hw _ _ _ (by omega) (by first | omega | (simp only [lay_n, upd_n, more_n, froz_n]; omega))))
        · rw [← hof]; exact h n hn
      · rw [if_neg e] at hof
        refine ⟨10 - (i + 1), by omega, i + 1, by omega, rfl, ?_, rfl, ?_⟩
        · (repeat (first | with_reducible exact Ext.refl _ | with_reducible assumption | refine Ext.lay ?_ _ _ _ (by omega) (by first | omega | (simp only [lay_n, upd_n, more_n, froz_n]; omega)) | refine Ext.upd ?_ _ _ (by omega) | refine Ext.more ?_ _ (by first | omega | (simp only [lay_n, upd_n, more_n, froz_n]; omega)) | refine Ext.frz ?_ hw _ _ _ (by omega) (by first | omega | (simp only [lay_n, upd_n, more_n, froz_n]; omega))))
        · rw [hof]; congr 1; omega
    · have hnl : ¬ ((i : Int) + 1 ≤ 10) := by omega
      simp (maxSteps := 2000000) -dsimp (disch := omega) only [h0, h3, hds, hnl, ↓Tryz.ntmps40, ↓res40, ↓xpre0, xpost0, xpost1, xpost2, xpost3, facts0, facts1, calls0, St.wf.none hw, Nat.add_assoc, ↓reduceIte, Nat.reduceEqDiff, Nat.reduceMul, Nat.reduceAdd, Nat.reduceSub, Nat.reduceLeDiff, Nat.reduceLT, Int.reduceBEq, Int.reduceBNe, Int.reduceEq, Int.reduceNe, Int.reduceLT, Int.reduceLE, Int.reduceToNat, Int.reduceAdd, Int.reduceSub, Int.reduceMul, Int.cast_ofNat_Int]
      refine drop_ext hw hext (fun n hn => ?_)
      have : ofS l = 0 := by rw [hof, show 10 - i = 0 by omega]; rfl
      rw [← this]; exact h n hn
end Go.Proofs.TX
/- op.Of. -/
set_option linter.unusedSimpArgs false
set_option linter.unusedVariables false
set_option maxRecDepth 100000
set_option maxHeartbeats 4000000
namespace Go.Proofs.TX
open Go
theorem kcell' (i : Nat) (h : i < 10) : kindsCells[0 + (i * 3 + 0)]? = some (str (opName ((i : Int) + 1))) ∧ kindsCells[0 + (i * 3 + 1)]? = some (str (opUses ((i : Int) + 1))) ∧ kindsCells[0 + (i * 3 + 2)]? = some (opFn ((i : Int) + 1)) := by
  have := kcell ((i : Int) + 1) (by omega) (by omega)
  have e : (IntKind.i64.wrap ((i : Int) + 1 - 1)).toNat = i := by rw [wrap_i64 (by omega) (by omega)]; omega
  rw [e] at this; exact this
theorem opOf_c (B : World) : ∀ args s K, (Spec.fn opOfF).run args s K → CallOK Tryz.prog B 20 args s K.K := by
  refine fn_intro fun l v hF s R h => ?_
  unfold opOfF at hF
  split at hF <;> cases hF
  rename_i a
  obtain ⟨l, rfl⟩ : ∃ l : Bs, a = ⟨l.toArray⟩ := ⟨a.data.toList, by simp⟩
  have e0 : (ByteArray.mk l.toArray).data.toList = l := by simp
  rw [e0] at h
  refine call_of (eOf B) (fun _ => none) mixed Tryz.func20 rfl (by simp [Tryz.ntmps20]) (by kernel_rfl) fun hw => ?_
  simp (maxSteps := 2000000) -dsimp (disch := omega) only [eOf_45, kinds_run, ↓Tryz.ntmps20, ↓res20, ↓xpre0, xpost0, xpost1, xpost2, xpost3, facts0, facts1, calls0, St.wf.none hw, Nat.add_assoc, ↓reduceIte, Nat.reduceEqDiff, Nat.reduceMul, Nat.reduceAdd, Nat.reduceSub, Nat.reduceLeDiff, Nat.reduceLT, Int.reduceBEq, Int.reduceBNe, Int.reduceEq, Int.reduceNe, Int.reduceLT, Int.reduceLE, Int.reduceToNat, Int.reduceAdd, Int.reduceSub, Int.reduceMul, Int.cast_ofNat_Int]
  intro j k
  refine loop_wf (pl := fun _ => none) mixed (by kernel_rfl) (fun m fr t => ∃ i, i ≤ 10 ∧ m = 10 - i ∧ Ext s t ∧ s.n + j < t.n ∧ fr.ds = [] ∧ fr.ρ 0 = str l ∧ fr.ρ 5 = .slice (some ⟨s.n + j, 0, none⟩) 10 10 ∧ fr.ρ 6 = .int .i64 10 ∧ fr.ρ 7 = .int .i64 (i : Nat) ∧
      t.at (s.n + j) = some (.cells kindsCells.toArray 81) ∧ ofS l = ofFrom l (10 - i) i) 10 ?_ ?_
  · refine ⟨0, by omega, by omega, ?_, ?_, rfl, rfl, rfl, rfl, rfl, ?_, rfl⟩
    · (repeat (first | with_reducible exact Ext.refl _ | with_reducible assumption | refine Ext.lay ?_ _ _ _ (by omega) (by first | omega | (simp only [lay_n, upd_n, more_n, froz_n]; omega)) | refine Ext.upd ?_ _ _ (by omega) | refine Ext.more ?_ _ (by first | omega | (simp only [lay_n, upd_n, more_n, froz_n]; omega)) | refine Ext.frz ?_ hw _ _ _ (by omega) (by first | omega | (simp only [lay_n, upd_n, more_n, froz_n]; omega))))
    · simp (maxSteps := 2000000) -dsimp (disch := omega) only [↓xpre0, xpost0, xpost1, xpost2, xpost3, facts0, facts1, calls0, St.wf.none hw, Nat.add_assoc, ↓reduceIte, Nat.reduceEqDiff, Nat.reduceMul, Nat.reduceAdd, Nat.reduceSub, Nat.reduceLeDiff, Nat.reduceLT, Int.reduceBEq, Int.reduceBNe, Int.reduceEq, Int.reduceNe, Int.reduceLT, Int.reduceLE, Int.reduceToNat, Int.reduceAdd, Int.reduceSub, Int.reduceMul, Int.cast_ofNat_Int]
      omega
    · simp (maxSteps := 2000000) -dsimp (disch := omega) only [↓xpre0, xpost0, xpost1, xpost2, xpost3, facts0, facts1, calls0, St.wf.none hw, Nat.add_assoc, ↓reduceIte, Nat.reduceEqDiff, Nat.reduceMul, Nat.reduceAdd, Nat.reduceSub, Nat.reduceLeDiff, Nat.reduceLT, Int.reduceBEq, Int.reduceBNe, Int.reduceEq, Int.reduceNe, Int.reduceLT, Int.reduceLE, Int.reduceToNat, Int.reduceAdd, Int.reduceSub, Int.reduceMul, Int.cast_ofNat_Int]
  · rintro m fr t ht ⟨i, hi, rfl, hext, hn, hds, h0, h5, h6, h7, m1, hof⟩
    simp only [at_eq] at m1
    by_cases hlt : i < 10
    · have hlt' : (i : Int) < 10 := by omega
      have hwr : IntKind.i64.wrap ((i : Int) + 1) = ((i + 1 : Nat) : Int) := by rw [wrap_i64 (by omega) (by omega)]; omega
      obtain ⟨k1, k2, k3⟩ := kcell' i hlt
      simp (maxSteps := 2000000) -dsimp (disch := omega) only [h0, h5, h6, h7, m1, hds, hlt', hwr, bs_inj, Int.toNat_natCast, k1, k2, k3, oneCell_opFn, ↓Tryz.ntmps20, ↓res20, ↓xpre0, xpost0, xpost1, xpost2, xpost3, facts0, facts1, calls0, St.wf.none hw, Nat.add_assoc, ↓reduceIte, Nat.reduceEqDiff, Nat.reduceMul, Nat.reduceAdd, Nat.reduceSub, Nat.reduceLeDiff, Nat.reduceLT, Int.reduceBEq, Int.reduceBNe, Int.reduceEq, Int.reduceNe, Int.reduceLT, Int.reduceLE, Int.reduceToNat, Int.reduceAdd, Int.reduceSub, Int.reduceMul, Int.cast_ofNat_Int]
      rw [show 10 - i = (9 - i) + 1 by omega, ofFrom] at hof
      have hsn := hext.n
      refine ⟨by omega, fun _ => ⟨fun e => ?_, fun e => ?_⟩⟩
      · rw [if_pos e] at hof
        refine drop_ext hw ?_ (fun n hn => ?_)
        · (repeat (first | with_reducible exact Ext.refl _ | with_reducible assumption | refine Ext.lay ?_ _ _ _ (by omega) (by first | omega | (simp only [lay_n, upd_n, more_n, froz_n]; omega)) | refine Ext.upd ?_ _ _ (by omega) | refine Ext.more ?_ _ (by first | omega | (simp only [lay_n, upd_n, more_n, froz_n]; omega)) | refine Ext.frz ?_ hw _ _ _ (by omega) (by first | omega | (simp only [lay_n, upd_n, more_n, froz_n]; omega))))
        · have := h n hn
          rw [hof] at this; exact this
      · rw [if_neg e] at hof
        refine ⟨10 - (i + 1), by omega, i + 1, by omega, rfl, ?_, by omega, rfl, ?_⟩
        · (repeat (first | with_reducible exact Ext.refl _ | with_reducible assumption | refine Ext.lay ?_ _ _ _ (by omega) (by first | omega | (simp only [lay_n, upd_n, more_n, froz_n]; omega)) | refine Ext.upd ?_ _ _ (by omega) | refine Ext.more ?_ _ (by first | omega | (simp only [lay_n, upd_n, more_n, froz_n]; omega)) | refine Ext.frz ?_ hw _ _ _ (by omega) (by first | omega | (simp only [lay_n, upd_n, more_n, froz_n]; omega))))
        · rw [hof]; congr 1; omega
    · have hnl : ¬ ((i : Int) < 10) := by omega
      simp (maxSteps := 2000000) -dsimp (disch := omega) only [h0, h5, h6, h7, hds, hnl, ↓Tryz.ntmps20, ↓res20, ↓xpre0, xpost0, xpost1, xpost2, xpost3, facts0, facts1, calls0, St.wf.none hw, Nat.add_assoc, ↓reduceIte, Nat.reduceEqDiff, Nat.reduceMul, Nat.reduceAdd, Nat.reduceSub, Nat.reduceLeDiff, Nat.reduceLT, Int.reduceBEq, Int.reduceBNe, Int.reduceEq, Int.reduceNe, Int.reduceLT, Int.reduceLE, Int.reduceToNat, Int.reduceAdd, Int.reduceSub, Int.reduceMul, Int.cast_ofNat_Int]
      refine drop_ext hw hext (fun n hn => ?_)
      have : ofS l = 0 := by rw [hof, show 10 - i = 0 by omega]; rfl
      rw [← this]; exact h n hn
end Go.Proofs.TX
