/- The text layer's functions: spot, val. -/
import Derived.Test.YtfndoonmgilklaaGreatDoorXT5
set_option linter.unusedSimpArgs false
set_option linter.unusedVariables false
set_option maxRecDepth 100000
set_option maxHeartbeats 4000000
namespace Go.Proofs.TX
open Go
def spotOff (c : Int) : Nat := if c = 107 then 7 else if c = 102 then 8 else if c = 114 then 9 else if c = 104 then 1 else if c = 103 then 2 else 3
def spotF : List Value → Option Value
  | [.pointer (some ⟨b, 0, none⟩), .int .i32 c] => some (.pointer (some ⟨b, spotOff c, none⟩))
  | _ => none
theorem spot_c (B : World) : ∀ args s K, (Spec.fn spotF).run args s K → CallOK Tryz.prog B 50 args s K.K := by
  refine fn_intro fun l v hF s R h => ?_
  unfold spotF at hF
  split at hF <;> cases hF
  rename_i b c
  refine call_of (.base Tryz.prog B) (fun _ => none) mixed Tryz.func50 rfl (by simp [Tryz.ntmps50]) (by kernel_rfl) fun hw => ?_
  simp (maxSteps := 2000000) -dsimp (disch := omega) only [↓Tryz.ntmps50, ↓res50, ↓xpre0, xpost0, xpost1, xpost2, xpost3, facts0, facts1, calls0, St.wf.none hw, Nat.add_assoc, ↓reduceIte, Nat.reduceEqDiff, Nat.reduceMul, Nat.reduceAdd, Nat.reduceSub, Nat.reduceLeDiff, Nat.reduceLT, Int.reduceBEq, Int.reduceBNe, Int.reduceEq, Int.reduceNe, Int.reduceLT, Int.reduceLE, Int.reduceToNat, Int.reduceAdd, Int.reduceSub, Int.reduceMul, Int.cast_ofNat_Int]
  have fin : ∀ o : Nat, spotOff c = o → Drop R (.pointer (some ⟨b, o, none⟩)) s := by
    rintro o rfl
    exact drop_ext hw (Ext.refl s) h
  (repeat' (first | apply And.intro | intro _))
  all_goals
    refine fin _ ?_
    unfold spotOff
    (repeat' split) <;> first | rfl | (exfalso; omega)
theorem spot_run (b : Nat) (c : Int) (s : St) (K : Kp (Value → St → Prop)) : (Spec.fn spotF).run #[.pointer (some ⟨b, 0, none⟩), .int .i32 c] s K = ∀ k, K.K (.pointer (some ⟨b, spotOff c, none⟩)) (s.more (s.n + k)) := rfl
/-- the value that a text may tell: (kind, number) -/
def valS (l : Bs) : Int × Int := if l = [110, 105, 108] then (0, 0) else
  let at' := Lib.hasPrefix l [64]
  let d := if at' = true then Lib.trimPrefix l [64] else l
  (if (numberS d).isSome then (if at' = true then 2 else 1) else -1, atoiN d)
theorem trimPrefix_length (l p : Bs) : (Lib.trimPrefix l p).length ≤ l.length := by
  unfold Lib.trimPrefix; split <;> simp
noncomputable def eVal (B : World) (hB : Good B) : Env Tryz.prog := ((Env.base Tryz.prog B).ext 81 (.fn cutPrefixF) (cutPrefix_c B)).ext 47 (.fn numberF) (number_c B hB)
theorem eVal_81 (B : World) (hB : Good B) (a p : ByteArray) (s : St) (K : Kp (Value → St → Prop)) : XCallOK Tryz.prog (eVal B hB) 81 #[.string a, .string p] s K =
    ∀ k, K.K (.tuple #[str (Lib.trimPrefix a.data.toList p.data.toList), .bool (Lib.hasPrefix a.data.toList p.data.toList)]) (s.more (s.n + k)) := rfl
theorem eVal_47 (B : World) (hB : Good B) {l : Bs} (hl : l.length ≤ 281474976710656) (s : St) (K : Kp (Value → St → Prop)) : XCallOK Tryz.prog (eVal B hB) 47 #[str l] s K =
    ∀ k, K.K (.tuple #[.int .i64 (atoiN l), .bool (numberS l).isSome]) (s.more (s.n + k)) :=
  (show _ = (Spec.fn numberF).run #[str l] s K from rfl).trans (Spec.fn_run (by simp [numberF, bs_size, hl]) s K)
def valF : List Value → Option Value
  | [.string a] => if a.size ≤ 281474976710656 then some (.agg #[.int .i64 (valS a.data.toList).1, .int .i64 (valS a.data.toList).2]) else none
  | _ => none
theorem val_c (B : World) (hB : Good B) : ∀ args s K, (Spec.fn valF).run args s K → CallOK Tryz.prog B 49 args s K.K := by
  refine fn_intro fun l v hF s R h => ?_
  unfold valF at hF
  split at hF
  rotate_left
  · cases hF
  rename_i a
  split at hF <;> cases hF
  rename_i ha
  obtain ⟨l, rfl⟩ : ∃ l : Bs, a = ⟨l.toArray⟩ := ⟨a.data.toList, by simp⟩
  rw [bs_size] at ha
  have ha2 : (Lib.trimPrefix l [64]).length ≤ 281474976710656 := Nat.le_trans (trimPrefix_length _ _) ha
  have hnil : (ByteArray.mk l.toArray = ByteArray.mk #[110, 105, 108]) = (l = [110, 105, 108]) := propext (bs_inj l [110, 105, 108])
  by_cases hn : l = [110, 105, 108]
  · refine call_of (eVal B hB) (fun _ => none) mixed Tryz.func49 rfl (by simp [Tryz.ntmps49]) (by kernel_rfl) fun hw => ?_
    simp (maxSteps := 2000000) -dsimp (disch := omega) only [hnil, hn, eq_self_iff_true, decide_true, ↓Tryz.ntmps49, ↓res49, ↓xpre0, xpost0, xpost1, xpost2, xpost3, facts0, facts1, calls0, St.wf.none hw, Nat.add_assoc, ↓reduceIte, Nat.reduceEqDiff, Nat.reduceMul, Nat.reduceAdd, Nat.reduceSub, Nat.reduceLeDiff, Nat.reduceLT, Int.reduceBEq, Int.reduceBNe, Int.reduceEq, Int.reduceNe, Int.reduceLT, Int.reduceLE, Int.reduceToNat, Int.reduceAdd, Int.reduceSub, Int.reduceMul, Int.cast_ofNat_Int]
    refine drop_ext hw ?_ (fun n hn' => ?_)
    · (repeat (first | with_reducible exact Ext.refl _ | with_reducible assumption | refine Ext.lay ?_ _ _ _ (by omega) (by first | omega | (simp only [lay_n, upd_n, more_n, froz_n]; omega)) | refine Ext.upd ?_ _ _ (by omega) | refine Ext.more ?_ _ (by first | omega | (simp only [lay_n, upd_n, more_n, froz_n]; omega)) | refine Ext.frz ?_ hw _ _ _ (by omega) (by first | omega | (simp only [lay_n, upd_n, more_n, froz_n]; omega))))
    · simpa [valS, hn] using h n hn'
  · cases hp : Lib.hasPrefix l [64] with
    | true =>
      cases hnum : (numberS (Lib.trimPrefix l [64])).isSome with
      | true =>
        refine call_of (eVal B hB) (fun _ => none) mixed Tryz.func49 rfl (by simp [Tryz.ntmps49]) (by kernel_rfl) fun hw => ?_
        simp (maxSteps := 2000000) -dsimp (disch := omega) only [hnil, hn, eVal_81, eVal_47 B hB ha2, hp, hnum, ↓Tryz.ntmps49, ↓res49, ↓xpre0, xpost0, xpost1, xpost2, xpost3, facts0, facts1, calls0, St.wf.none hw, Nat.add_assoc, ↓reduceIte, Nat.reduceEqDiff, Nat.reduceMul, Nat.reduceAdd, Nat.reduceSub, Nat.reduceLeDiff, Nat.reduceLT, Int.reduceBEq, Int.reduceBNe, Int.reduceEq, Int.reduceNe, Int.reduceLT, Int.reduceLE, Int.reduceToNat, Int.reduceAdd, Int.reduceSub, Int.reduceMul, Int.cast_ofNat_Int]
        intros
        refine drop_ext hw ?_ (fun n hn' => ?_)
        · (repeat (first | with_reducible exact Ext.refl _ | with_reducible assumption | refine Ext.lay ?_ _ _ _ (by omega) (by first | omega | (simp only [lay_n, upd_n, more_n, froz_n]; omega)) | refine Ext.upd ?_ _ _ (by omega) | refine Ext.more ?_ _ (by first | omega | (simp only [lay_n, upd_n, more_n, froz_n]; omega)) | refine Ext.frz ?_ hw _ _ _ (by omega) (by first | omega | (simp only [lay_n, upd_n, more_n, froz_n]; omega))))
        · simpa [valS, hn, hp, hnum] using h n hn'
      | false =>
        refine call_of (eVal B hB) (fun _ => none) mixed Tryz.func49 rfl (by simp [Tryz.ntmps49]) (by kernel_rfl) fun hw => ?_
        simp (maxSteps := 2000000) -dsimp (disch := omega) only [hnil, hn, eVal_81, eVal_47 B hB ha2, hp, hnum, ↓Tryz.ntmps49, ↓res49, ↓xpre0, xpost0, xpost1, xpost2, xpost3, facts0, facts1, calls0, St.wf.none hw, Nat.add_assoc, ↓reduceIte, Nat.reduceEqDiff, Nat.reduceMul, Nat.reduceAdd, Nat.reduceSub, Nat.reduceLeDiff, Nat.reduceLT, Int.reduceBEq, Int.reduceBNe, Int.reduceEq, Int.reduceNe, Int.reduceLT, Int.reduceLE, Int.reduceToNat, Int.reduceAdd, Int.reduceSub, Int.reduceMul, Int.cast_ofNat_Int]
        intros
        refine drop_ext hw ?_ (fun n hn' => ?_)
        · (repeat (first | with_reducible exact Ext.refl _ | with_reducible assumption | refine Ext.lay ?_ _ _ _ (by omega) (by first | omega | (simp only [lay_n, upd_n, more_n, froz_n]; omega)) | refine Ext.upd ?_ _ _ (by omega) | refine Ext.more ?_ _ (by first | omega | (simp only [lay_n, upd_n, more_n, froz_n]; omega)) | refine Ext.frz ?_ hw _ _ _ (by omega) (by first | omega | (simp only [lay_n, upd_n, more_n, froz_n]; omega))))
        · simpa [valS, hn, hp, hnum] using h n hn'
    | false =>
      cases hnum : (numberS l).isSome with
      | true =>
        refine call_of (eVal B hB) (fun _ => none) mixed Tryz.func49 rfl (by simp [Tryz.ntmps49]) (by kernel_rfl) fun hw => ?_
        simp (maxSteps := 2000000) -dsimp (disch := omega) only [hnil, hn, eVal_81, eVal_47 B hB ha, hp, hnum, ↓Tryz.ntmps49, ↓res49, ↓xpre0, xpost0, xpost1, xpost2, xpost3, facts0, facts1, calls0, St.wf.none hw, Nat.add_assoc, ↓reduceIte, Nat.reduceEqDiff, Nat.reduceMul, Nat.reduceAdd, Nat.reduceSub, Nat.reduceLeDiff, Nat.reduceLT, Int.reduceBEq, Int.reduceBNe, Int.reduceEq, Int.reduceNe, Int.reduceLT, Int.reduceLE, Int.reduceToNat, Int.reduceAdd, Int.reduceSub, Int.reduceMul, Int.cast_ofNat_Int]
        intros
        refine drop_ext hw ?_ (fun n hn' => ?_)
        · (repeat (first | with_reducible exact Ext.refl _ | with_reducible assumption | refine Ext.lay ?_ _ _ _ (by omega) (by first | omega | (simp only [lay_n, upd_n, more_n, froz_n]; omega)) | refine Ext.upd ?_ _ _ (by omega) | refine Ext.more ?_ _ (by first | omega | (simp only [lay_n, upd_n, more_n, froz_n]; omega)) | refine Ext.frz ?_ hw _ _ _ (by omega) (by first | omega | (simp only [lay_n, upd_n, more_n, froz_n]; omega))))
        · simpa [valS, hn, hp, hnum] using h n hn'
      | false =>
        refine call_of (eVal B hB) (fun _ => none) mixed Tryz.func49 rfl (by simp [Tryz.ntmps49]) (by kernel_rfl) fun hw => ?_
        simp (maxSteps := 2000000) -dsimp (disch := omega) only [hnil, hn, eVal_81, eVal_47 B hB ha, hp, hnum, ↓Tryz.ntmps49, ↓res49, ↓xpre0, xpost0, xpost1, xpost2, xpost3, facts0, facts1, calls0, St.wf.none hw, Nat.add_assoc, ↓reduceIte, Nat.reduceEqDiff, Nat.reduceMul, Nat.reduceAdd, Nat.reduceSub, Nat.reduceLeDiff, Nat.reduceLT, Int.reduceBEq, Int.reduceBNe, Int.reduceEq, Int.reduceNe, Int.reduceLT, Int.reduceLE, Int.reduceToNat, Int.reduceAdd, Int.reduceSub, Int.reduceMul, Int.cast_ofNat_Int]
        intros
        refine drop_ext hw ?_ (fun n hn' => ?_)
        · (repeat (first | with_reducible exact Ext.refl _ | with_reducible assumption | refine Ext.lay ?_ _ _ _ (by omega) (by first | omega | (simp only [lay_n, upd_n, more_n, froz_n]; omega)) | refine Ext.upd ?_ _ _ (by omega) | refine Ext.more ?_ _ (by first | omega | (simp only [lay_n, upd_n, more_n, froz_n]; omega)) | refine Ext.frz ?_ hw _ _ _ (by omega) (by first | omega | (simp only [lay_n, upd_n, more_n, froz_n]; omega))))
        · simpa [valS, hn, hp, hnum] using h n hn'
end Go.Proofs.TX
