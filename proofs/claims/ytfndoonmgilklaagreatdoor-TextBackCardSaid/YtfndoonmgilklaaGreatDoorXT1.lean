/- The text layer's functions: op. -/
import Derived.Test.YtfndoonmgilklaaGreatDoorXTFacts
import Derived.Test.YtfndoonmgilklaaGreatDoorXTPlain
set_option linter.unusedSimpArgs false
set_option linter.unusedVariables false
set_option maxRecDepth 100000
set_option maxHeartbeats 4000000
namespace Go.Proofs.TX
open Go
def kindRow (n u : Bs) (f : Nat) : List Value := [str n, str u, .func (.func f) #[] #[]]
def kindsCells : List Value := kindRow [110, 101, 119] [107, 102, 114, 112] 60 ++ kindRow [108, 111, 97, 100] [104, 105] 62 ++ kindRow [115, 116, 111, 114, 101] [104, 105, 118] 64 ++ kindRow [114, 101, 97, 100] [104, 105] 66 ++ kindRow [119, 114, 105, 116, 101] [104, 105, 119] 68 ++
  kindRow [115, 97, 109, 101] [104, 103] 70 ++ kindRow [100, 117, 112] [104] 72 ++ kindRow [114, 101, 108, 101, 97, 115, 101] [104] 74 ++ kindRow [99, 111, 108, 108, 101, 99, 116] [112] 76 ++ kindRow [119, 104, 97, 116] [104] 78
def kindsSp : Spec where
  run args s K := args = #[] ∧ ∀ j k, K.K (.slice (some ⟨s.n + j, 0, none⟩) 10 10) (s.froz (s.n + j) (.cells kindsCells.toArray 81) (s.n + j + 1 + k))
  mono args s K K' h hk := ⟨hk.1, fun j k => h _ _ (hk.2 j k)⟩
theorem kinds_c (B : World) : ∀ args s K, kindsSp.run args s K → CallOK Tryz.prog B 45 args s K.K := by
  rintro args s K ⟨rfl, h⟩
  refine call_of (.base Tryz.prog B) (fun _ => none) mixed Tryz.func45 rfl (by simp [Tryz.ntmps45]) (by kernel_rfl) fun hw => ?_
  simp (maxSteps := 2000000) -dsimp (disch := omega) only [↓Tryz.ntmps45, ↓res45, ↓xpre0, xpost0, xpost1, xpost2, xpost3, facts0, facts1, calls0, St.wf.none hw, Nat.add_assoc, ↓reduceIte, Nat.reduceEqDiff, Nat.reduceMul, Nat.reduceAdd, Nat.reduceSub, Nat.reduceLeDiff, Nat.reduceLT, Int.reduceBEq, Int.reduceBNe, Int.reduceEq, Int.reduceNe, Int.reduceLT, Int.reduceLE, Int.reduceToNat, Int.reduceAdd, Int.reduceSub, Int.reduceMul, Int.cast_ofNat_Int]
  exact drop_froz hw ((Ext.refl s).lay _ _ _ (Nat.le_refl _) (Nat.le_succ _)) (Nat.le_refl _) (lay_h_self _ _ _) (h 0 0)
noncomputable def eOf (B : World) : Env Tryz.prog := (Env.base Tryz.prog B).ext 45 kindsSp (kinds_c B)
theorem eOf_45 (B : World) (args : Array Value) (s : St) (K : Kp (Value → St → Prop)) : XCallOK Tryz.prog (eOf B) 45 args s K = kindsSp.run args s K := rfl
theorem kinds_run (s : St) (K : Kp (Value → St → Prop)) : kindsSp.run #[] s K = ∀ j k, K.K (.slice (some ⟨s.n + j, 0, none⟩) 10 10) (s.froz (s.n + j) (.cells kindsCells.toArray 81) (s.n + j + 1 + k)) := by simp [kindsSp]
theorem kcell (d : Int) (h1 : 1 ≤ d) (h2 : d ≤ 10) : kindsCells[0 + ((IntKind.i64.wrap (d - 1)).toNat * 3 + 0)]? = some (str (opName d)) ∧ kindsCells[0 + ((IntKind.i64.wrap (d - 1)).toNat * 3 + 1)]? = some (str (opUses d)) ∧
    kindsCells[0 + ((IntKind.i64.wrap (d - 1)).toNat * 3 + 2)]? = some (opFn d) :=
  ten (p := fun d => kindsCells[0 + ((IntKind.i64.wrap (d - 1)).toNat * 3 + 0)]? = some (str (opName d)) ∧ kindsCells[0 + ((IntKind.i64.wrap (d - 1)).toNat * 3 + 1)]? = some (str (opUses d)) ∧
    kindsCells[0 + ((IntKind.i64.wrap (d - 1)).toNat * 3 + 2)]? = some (opFn d)) ⟨⟨rfl, rfl, rfl⟩, ⟨rfl, rfl, rfl⟩, ⟨rfl, rfl, rfl⟩, ⟨rfl, rfl, rfl⟩, ⟨rfl, rfl, rfl⟩, ⟨rfl, rfl, rfl⟩, ⟨rfl, rfl, rfl⟩, ⟨rfl, rfl, rfl⟩, ⟨rfl, rfl, rfl⟩, ⟨rfl, rfl, rfl⟩⟩ d h1 h2
theorem oneCell_opFn (d : Int) : oneCell (opFn d) = true := by unfold opFn; split <;> rfl
def ofF : List Value → Option Value
  | [.int .i64 d] => some (.tuple #[.agg #[str (opName d), str (opUses d), opFn d], .bool (decide (1 ≤ d ∧ d ≤ 10))])
  | _ => none
theorem of_c (B : World) : ∀ args s K, (Spec.fn ofF).run args s K → CallOK Tryz.prog B 46 args s K.K := by
  refine fn_intro fun l v hF s R h => ?_
  unfold ofF at hF
  split at hF <;> cases hF
  rename_i d
  refine call_of (eOf B) (fun _ => none) mixed Tryz.func46 rfl (by simp [Tryz.ntmps46]) (by kernel_rfl) fun hw => ?_
  simp (maxSteps := 2000000) -dsimp (disch := omega) only [eOf_45, kinds_run, ↓Tryz.ntmps46, ↓res46, ↓xpre0, xpost0, xpost1, xpost2, xpost3, facts0, facts1, calls0, St.wf.none hw, Nat.add_assoc, ↓reduceIte, Nat.reduceEqDiff, Nat.reduceMul, Nat.reduceAdd, Nat.reduceSub, Nat.reduceLeDiff, Nat.reduceLT, Int.reduceBEq, Int.reduceBNe, Int.reduceEq, Int.reduceNe, Int.reduceLT, Int.reduceLE, Int.reduceToNat, Int.reduceAdd, Int.reduceSub, Int.reduceMul, Int.cast_ofNat_Int]
  have hno : ¬ (1 ≤ d ∧ d ≤ 10) → ∀ n, s.n ≤ n → R (.tuple #[.agg #[.string ⟨#[]⟩, .string ⟨#[]⟩, .nilFunc], .bool false]) (s.more n) := by
    intro hd n hn
    have e : decide (1 ≤ d ∧ d ≤ 10) = false := by simpa using hd
    simpa [opName_none hd, e] using h n hn
  (repeat' (first | apply And.intro | intro _))
  · refine drop_ext hw ?_ (hno (by omega))
    (repeat (first | with_reducible exact Ext.refl _ | with_reducible assumption | refine Ext.lay ?_ _ _ _ (by omega) (by first | omega | (simp only [lay_n, upd_n, more_n, froz_n]; omega)) | refine Ext.upd ?_ _ _ (by omega) | refine Ext.more ?_ _ (by first | omega | (simp only [lay_n, upd_n, more_n, froz_n]; omega)) | refine Ext.frz ?_ hw _ _ _ (by omega) (by first | omega | (simp only [lay_n, upd_n, more_n, froz_n]; omega))))
  · rw [wrap_i64 (by omega) (by omega)]; omega
  · rw [wrap_i64 (by omega) (by omega)]; omega
  · obtain ⟨k1, k2, k3⟩ := kcell d (by omega) (by omega)
    rw [k1, k2, k3]
    simp (maxSteps := 2000000) -dsimp (disch := omega) only [oneCell_opFn, ↓Tryz.ntmps46, ↓res46, ↓xpre0, xpost0, xpost1, xpost2, xpost3, facts0, facts1, calls0, St.wf.none hw, Nat.add_assoc, ↓reduceIte, Nat.reduceEqDiff, Nat.reduceMul, Nat.reduceAdd, Nat.reduceSub, Nat.reduceLeDiff, Nat.reduceLT, Int.reduceBEq, Int.reduceBNe, Int.reduceEq, Int.reduceNe, Int.reduceLT, Int.reduceLE, Int.reduceToNat, Int.reduceAdd, Int.reduceSub, Int.reduceMul, Int.cast_ofNat_Int]
    refine drop_ext hw ?_ (fun n hn => ?_)
    · (repeat (first | with_reducible exact Ext.refl _ | with_reducible assumption | refine Ext.lay ?_ _ _ _ (by omega) (by first | omega | (simp only [lay_n, upd_n, more_n, froz_n]; omega)) | refine Ext.upd ?_ _ _ (by omega) | refine Ext.more ?_ _ (by first | omega | (simp only [lay_n, upd_n, more_n, froz_n]; omega)) | refine Ext.frz ?_ hw _ _ _ (by omega) (by first | omega | (simp only [lay_n, upd_n, more_n, froz_n]; omega))))
    · have e : decide (1 ≤ d ∧ d ≤ 10) = true := by simp; omega
      simpa [e] using h n hn
  · refine drop_ext hw ?_ (hno (by omega))
    (repeat (first | with_reducible exact Ext.refl _ | with_reducible assumption | refine Ext.lay ?_ _ _ _ (by omega) (by first | omega | (simp only [lay_n, upd_n, more_n, froz_n]; omega)) | refine Ext.upd ?_ _ _ (by omega) | refine Ext.more ?_ _ (by first | omega | (simp only [lay_n, upd_n, more_n, froz_n]; omega)) | refine Ext.frz ?_ hw _ _ _ (by omega) (by first | omega | (simp only [lay_n, upd_n, more_n, froz_n]; omega))))
noncomputable def eN (B : World) : Env Tryz.prog := (Env.base Tryz.prog B).ext 46 (.fn ofF) (of_c B)
theorem eN_46 (B : World) (d : Int) (s : St) (K : Kp (Value → St → Prop)) : XCallOK Tryz.prog (eN B) 46 #[.int .i64 d] s K = ∀ k, K.K (.tuple #[.agg #[str (opName d), str (opUses d), opFn d], .bool (decide (1 ≤ d ∧ d ≤ 10))]) (s.more (s.n + k)) := rfl
def nameF : List Value → Option Value
  | [.int .i64 d] => some (str (opName d))
  | _ => none
theorem name_c (B : World) : ∀ args s K, (Spec.fn nameF).run args s K → CallOK Tryz.prog B 23 args s K.K := by
  refine fn_intro fun l v hF s R h => ?_
  unfold nameF at hF
  split at hF <;> cases hF
  rename_i d
  refine call_of (eN B) (fun _ => none) mixed Tryz.func23 rfl (by simp [Tryz.ntmps23]) (by kernel_rfl) fun hw => ?_
  simp (maxSteps := 2000000) -dsimp (disch := omega) only [eN_46, oneCell_opFn, ↓Tryz.ntmps23, ↓res23, ↓xpre0, xpost0, xpost1, xpost2, xpost3, facts0, facts1, calls0, St.wf.none hw, Nat.add_assoc, ↓reduceIte, Nat.reduceEqDiff, Nat.reduceMul, Nat.reduceAdd, Nat.reduceSub, Nat.reduceLeDiff, Nat.reduceLT, Int.reduceBEq, Int.reduceBNe, Int.reduceEq, Int.reduceNe, Int.reduceLT, Int.reduceLE, Int.reduceToNat, Int.reduceAdd, Int.reduceSub, Int.reduceMul, Int.cast_ofNat_Int]
  intro k
  refine drop_ext hw ?_ h
  (repeat (first | with_reducible exact Ext.refl _ | with_reducible assumption | refine Ext.lay ?_ _ _ _ (by omega) (by first | omega | (simp only [lay_n, upd_n, more_n, froz_n]; omega)) | refine Ext.upd ?_ _ _ (by omega) | refine Ext.more ?_ _ (by first | omega | (simp only [lay_n, upd_n, more_n, froz_n]; omega)) | refine Ext.frz ?_ hw _ _ _ (by omega) (by first | omega | (simp only [lay_n, upd_n, more_n, froz_n]; omega))))
def usesF : List Value → Option Value
  | [.int .i64 d] => some (str (opUses d))
  | _ => none
theorem uses_c (B : World) : ∀ args s K, (Spec.fn usesF).run args s K → CallOK Tryz.prog B 21 args s K.K := by
  refine fn_intro fun l v hF s R h => ?_
  unfold usesF at hF
  split at hF <;> cases hF
  rename_i d
  refine call_of (eN B) (fun _ => none) mixed Tryz.func21 rfl (by simp [Tryz.ntmps21]) (by kernel_rfl) fun hw => ?_
  simp (maxSteps := 2000000) -dsimp (disch := omega) only [eN_46, oneCell_opFn, ↓Tryz.ntmps21, ↓res21, ↓xpre0, xpost0, xpost1, xpost2, xpost3, facts0, facts1, calls0, St.wf.none hw, Nat.add_assoc, ↓reduceIte, Nat.reduceEqDiff, Nat.reduceMul, Nat.reduceAdd, Nat.reduceSub, Nat.reduceLeDiff, Nat.reduceLT, Int.reduceBEq, Int.reduceBNe, Int.reduceEq, Int.reduceNe, Int.reduceLT, Int.reduceLE, Int.reduceToNat, Int.reduceAdd, Int.reduceSub, Int.reduceMul, Int.cast_ofNat_Int]
  intro k
  refine drop_ext hw ?_ h
  (repeat (first | with_reducible exact Ext.refl _ | with_reducible assumption | refine Ext.lay ?_ _ _ _ (by omega) (by first | omega | (simp only [lay_n, upd_n, more_n, froz_n]; omega)) | refine Ext.upd ?_ _ _ (by omega) | refine Ext.more ?_ _ (by first | omega | (simp only [lay_n, upd_n, more_n, froz_n]; omega)) | refine Ext.frz ?_ hw _ _ _ (by omega) (by first | omega | (simp only [lay_n, upd_n, more_n, froz_n]; omega))))
end Go.Proofs.TX
