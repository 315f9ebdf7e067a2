/- The text layer's functions: Plain. -/
import Derived.Test.YtfndoonmgilklaaGreatDoorXT1
set_option linter.unusedSimpArgs false
set_option linter.unusedVariables false
set_option maxRecDepth 100000
set_option maxHeartbeats 4000000
namespace Go.Proofs.TX
open Go
theorem getD_list (l : Bs) (i : Nat) (h : i < l.length) : l.toArray.getD i 0 = l[i] := by simp [Array.getD, h]
def plainF : List Value → Option Value
  | [.agg c] => match c.toList with
    | [.int .i64 dO, .int .i64 h, .int .i64 g, .int .i64 i, .int .i64 vk, .int .i64 vx, .int .u64 w, .int .i64 kind, .int .i64 fields, .int .i64 raws, .int .u8 policy] => some (plainS ⟨dO, h, g, i, vk, vx, w, kind, fields, raws, policy⟩).val
    | _ => none
  | _ => none
theorem plain_c' (B : World) (o : OpS) (s : St) (R : Value → St → Prop) (h : ∀ n, s.n ≤ n → R (plainS o).val (s.more n)) : CallOK Tryz.prog B 24 #[o.val] s R := by
  refine call_of (eN B) (fun _ => none) mixed Tryz.func24 rfl (by simp [Tryz.ntmps24]) (by kernel_rfl) fun hw => ?_
  simp (maxSteps := 2000000) -dsimp (disch := omega) only [eN_46, oneCell_opFn, OpS.cells, ↓Tryz.ntmps24, ↓res24, ↓xpre0, xpost0, xpost1, xpost2, xpost3, facts0, facts1, calls0, St.wf.none hw, Nat.add_assoc, ↓reduceIte, Nat.reduceEqDiff, Nat.reduceMul, Nat.reduceAdd, Nat.reduceSub, Nat.reduceLeDiff, Nat.reduceLT, Int.reduceBEq, Int.reduceBNe, Int.reduceEq, Int.reduceNe, Int.reduceLT, Int.reduceLE, Int.reduceToNat, Int.reduceAdd, Int.reduceSub, Int.reduceMul, Int.cast_ofNat_Int]
  intro k
  have hlen : ∀ l : Bs, (ByteArray.mk l.toArray).size = l.length := fun l => by simp [ByteArray.size]
  refine loop_wf (pl := fun _ => none) mixed (by kernel_rfl) (fun m fr t => ∃ p, p ≤ (opUses o.dO).length ∧ m = (opUses o.dO).length - p ∧ fr.ds = [] ∧ Ext s t ∧ s.n + (3 + (k + 2)) ≤ t.n ∧
      fr.ρ 1 = .pointer (some ⟨s.n, 0, none⟩) ∧ fr.ρ 2 = .pointer (some ⟨s.n + 1, 0, none⟩) ∧ fr.ρ 3 = .pointer (some ⟨s.n + 2, 0, none⟩) ∧ fr.ρ 19 = .pointer (some ⟨s.n + (3 + (k + 1)), 0, none⟩) ∧
      t.h s.n = some (.cells o.cells.toArray 35) ∧ t.h (s.n + 1) = some (.cells (OpS.zero 0).cells.toArray 35) ∧ t.h (s.n + 2) = some (.cells (plainGo o ((opUses o.dO).take p)).cells.toArray 35) ∧
      t.h (s.n + (3 + (k + 1))) = some (.stringIter ⟨(opUses o.dO).toArray⟩ p)) (opUses o.dO).length ?_ ?_
  · refine ⟨0, Nat.zero_le _, rfl, ?_⟩
    simp (maxSteps := 2000000) -dsimp (disch := omega) only [OpS.cells, OpS.zero, plainGo, List.foldl_nil, ↓xpre0, xpost0, xpost1, xpost2, xpost3, facts0, facts1, calls0, St.wf.none hw, Nat.add_assoc, ↓reduceIte, Nat.reduceEqDiff, Nat.reduceMul, Nat.reduceAdd, Nat.reduceSub, Nat.reduceLeDiff, Nat.reduceLT, Int.reduceBEq, Int.reduceBNe, Int.reduceEq, Int.reduceNe, Int.reduceLT, Int.reduceLE, Int.reduceToNat, Int.reduceAdd, Int.reduceSub, Int.reduceMul, Int.cast_ofNat_Int]
    refine ⟨?_, by omega⟩
    (repeat (first | with_reducible exact Ext.refl _ | with_reducible assumption | refine Ext.lay ?_ _ _ _ (by omega) (by first | omega | (simp only [lay_n, upd_n, more_n, froz_n]; omega)) | refine Ext.upd ?_ _ _ (by omega) | refine Ext.more ?_ _ (by first | omega | (simp only [lay_n, upd_n, more_n, froz_n]; omega)) | refine Ext.frz ?_ hw _ _ _ (by omega) (by first | omega | (simp only [lay_n, upd_n, more_n, froz_n]; omega))))
  · rintro m fr t ht ⟨p, hp, rfl, hds, hext, hn, h1, h2, h3, h19, m1, m2, m3, m4⟩
    by_cases hlt : p < (opUses o.dO).length
    · have hdec := decode_ascii (opUses o.dO) p hlt (opUses_ascii o.dO _ (List.getElem_mem hlt))
      have hsn := plainGo_snoc o (opUses o.dO) p hlt
      generalize plainGo o ((opUses o.dO).take p) = q at m3 hsn
      generalize (opUses o.dO)[p] = c at hdec hsn
      simp (maxSteps := 2000000) -dsimp (disch := omega) only [h1, h2, h3, h19, m1, m2, m3, m4, hds, OpS.cells, hlen, hdec, if_pos hlt, ↓xpre0, xpost0, xpost1, xpost2, xpost3, facts0, facts1, calls0, St.wf.none hw, Nat.add_assoc, ↓reduceIte, Nat.reduceEqDiff, Nat.reduceMul, Nat.reduceAdd, Nat.reduceSub, Nat.reduceLeDiff, Nat.reduceLT, Int.reduceBEq, Int.reduceBNe, Int.reduceEq, Int.reduceNe, Int.reduceLT, Int.reduceLE, Int.reduceToNat, Int.reduceAdd, Int.reduceSub, Int.reduceMul, Int.cast_ofNat_Int]
      (repeat' (first | apply And.intro | intro _))
      all_goals
        refine ⟨(opUses o.dO).length - (p + 1), by omega, p + 1, by omega, rfl, ?_, hn, ?_, rfl⟩
        · (repeat (first | with_reducible exact Ext.refl _ | with_reducible assumption | refine Ext.lay ?_ _ _ _ (by omega) (by first | omega | (simp only [lay_n, upd_n, more_n, froz_n]; omega)) | refine Ext.upd ?_ _ _ (by omega) | refine Ext.more ?_ _ (by first | omega | (simp only [lay_n, upd_n, more_n, froz_n]; omega)) | refine Ext.frz ?_ hw _ _ _ (by omega) (by first | omega | (simp only [lay_n, upd_n, more_n, froz_n]; omega))))
        · rw [hsn]; unfold letter; (repeat' split) <;> first | rfl | (exfalso; omega)
    · simp (maxSteps := 2000000) -dsimp (disch := omega) only [h1, h2, h3, h19, m1, m2, m3, m4, hds, OpS.cells, hlen, if_neg hlt, ↓Tryz.ntmps24, ↓res24, ↓xpre0, xpost0, xpost1, xpost2, xpost3, facts0, facts1, calls0, St.wf.none hw, Nat.add_assoc, ↓reduceIte, Nat.reduceEqDiff, Nat.reduceMul, Nat.reduceAdd, Nat.reduceSub, Nat.reduceLeDiff, Nat.reduceLT, Int.reduceBEq, Int.reduceBNe, Int.reduceEq, Int.reduceNe, Int.reduceLT, Int.reduceLE, Int.reduceToNat, Int.reduceAdd, Int.reduceSub, Int.reduceMul, Int.cast_ofNat_Int]
      refine drop_ext hw ?_ (fun n hn => ?_)
      · (repeat (first | with_reducible exact Ext.refl _ | with_reducible assumption | refine Ext.lay ?_ _ _ _ (by omega) (by first | omega | (simp only [lay_n, upd_n, more_n, froz_n]; omega)) | refine Ext.upd ?_ _ _ (by omega) | refine Ext.more ?_ _ (by first | omega | (simp only [lay_n, upd_n, more_n, froz_n]; omega)) | refine Ext.frz ?_ hw _ _ _ (by omega) (by first | omega | (simp only [lay_n, upd_n, more_n, froz_n]; omega))))
      · have e : (opUses o.dO).take p = opUses o.dO := List.take_of_length_le (by omega)
        rw [e]; exact h n hn
theorem plain_c (B : World) : ∀ args s K, (Spec.fn plainF).run args s K → CallOK Tryz.prog B 24 args s K.K := by
  refine fn_intro fun l v hF s R h => ?_
  unfold plainF at hF
  split at hF
  · rename_i c
    split at hF
    · rename_i dO hh g i vk vx w kind fields raws policy hc
      cases hF
      have e : c = (OpS.mk dO hh g i vk vx w kind fields raws policy).cells.toArray := by rw [← Array.toArray_toList (xs := c), hc]; rfl
      subst e
      exact plain_c' B ⟨dO, hh, g, i, vk, vx, w, kind, fields, raws, policy⟩ s R h
    · cases hF
  · cases hF
end Go.Proofs.TX
