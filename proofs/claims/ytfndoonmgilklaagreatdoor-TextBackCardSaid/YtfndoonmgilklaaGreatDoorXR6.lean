/- The document's layer 34: Split. -/
import Derived.Test.YtfndoonmgilklaaGreatDoorXR5
import Derived.Test.YtfndoonmgilklaaGreatDoorXT20
set_option linter.unusedSimpArgs false
set_option linter.unusedVariables false
set_option maxRecDepth 100000
set_option maxHeartbeats 4000000
namespace Go.Proofs.TX
open Go
/-- a row of strings that is only read -/
def StrsAt (s : St) (v : Value) (L : List Bs) : Prop := ∃ (b c : Nat) (C : Array Value) (T : TypeId) (fz : Nat × Nat), v = .slice (some ⟨b, 0, none⟩) L.length c ∧ b < s.n ∧ s.h b = none ∧ s.σ b = some (.cells C T fz) ∧ ∀ (i : Nat) (x : Bs), L[i]? = some x → C[i]? = some (str x)
theorem StrsAt.ext {s t : St} {v : Value} {l : List Bs} (h : StrsAt s v l) (hw : s.wf) (he : Ext s t) : StrsAt t v l := by
  obtain ⟨b, c, C, T, fz, rfl, h0, h1, h2, h3⟩ := h
  exact ⟨b, c, C, T, fz, rfl, Nat.lt_of_lt_of_le h0 he.n, by rw [he.h b h0]; exact h1, he.σ _ _ h2, h3⟩
theorem strs_out {s t : St} {lo : Nat} {av : List Nat} {v : Value} {L : List Bs} {R : Value → St → Prop} (hw : s.wf) (he : Ext s t) (hlo : s.n ≤ lo) (hne : L ≠ []) (hs : SlH t lo av 9 1 v (rowsOf L))
    (h : ∀ v s', Grow s s' → StrsAt s' v L → R v s') : Drop R v t := by
  rcases hs with ⟨h0, rfl⟩ | ⟨b, c, rest, rfl, h1, h2, h3, h4, h5, h6, h7⟩
  · cases L <;> simp [rowsOf] at h0 hne
  · refine drop_froz hw he (b := b) (by omega) h4 (h _ _ (Grow.froz hw _ (by omega) he.n) ⟨b, c, _, 9, (0, 0), by simp [rowsOf], by rw [froz_n]; exact h2, ?_, froz_σ_self _ _ _ _, ?_⟩)
    · rw [froz_h]; exact hw.none (by omega)
    · intro i x hx
      have := rowsOf_get L i x hx rest
      simpa using this
theorem bs_extract (l : Bs) (a b : Nat) : (ByteArray.mk l.toArray).extract a b = ⟨((l.drop a).take (b - a)).toArray⟩ := by
  apply ByteArray.ext
  rw [ByteArray.data_extract]
  simp [List.extract_eq_take_drop]
theorem split18_c (B : World) (l : Bs) (hl : l.length ≤ 1000000) (c : UInt8) (s : St) (R : Value → St → Prop) (h : ∀ v s', Grow s s' → StrsAt s' v (splitS c l) → R v s') : CallOK Tryz.prog B 18 #[str l, .int .u8 c.toNat] s R := by
  refine call_of (.base Tryz.prog B) (fun _ => none) mixed Tryz.func18 rfl (by simp [Tryz.ntmps18]) (by kernel_rfl) fun hw => ?_
  simp (maxSteps := 2000000) -dsimp (disch := omega) only [↓Tryz.ntmps18, ↓res18, ↓xpre0, xpost0, xpost1, xpost2, xpost3, facts0, facts1, calls0, St.wf.none hw, Nat.add_assoc, ↓reduceIte, Nat.reduceEqDiff, Nat.reduceMul, Nat.reduceAdd, Nat.reduceSub, Nat.reduceLeDiff, Nat.reduceLT, Int.reduceBEq, Int.reduceBNe, Int.reduceEq, Int.reduceNe, Int.reduceLT, Int.reduceLE, Int.reduceToNat, Int.reduceAdd, Int.reduceSub, Int.reduceMul, Int.cast_ofNat_Int]
  refine loop_wf (pl := fun _ => none) mixed (by kernel_rfl) (fun m fr t => ∃ i frm v done, i ≤ l.length + 1 ∧ m = l.length + 1 - i ∧ fr.ds = [] ∧ Ext s t ∧ fr.ρ 0 = str l ∧ fr.ρ 1 = .int .u8 c.toNat ∧ fr.ρ 5 = v ∧ fr.ρ 6 = .int .i64 (frm : Nat) ∧ fr.ρ 7 = .int .i64 (i : Nat) ∧
    SlH t s.n [] 9 1 v (rowsOf done) ∧ done.length ≤ i ∧ frm ≤ i ∧ (i ≤ l.length → splitS c l = done ++ glue ((l.drop frm).take (i - frm)) (splitS c (l.drop i))) ∧ (i = l.length + 1 → splitS c l = done)) (l.length + 1) ?_ ?_
  · refine ⟨0, 0, _, [], by omega, rfl, rfl, ?_, rfl, rfl, rfl, rfl, rfl, .inl ⟨rfl, ?_⟩, by simp, by omega, fun _ => ?_, fun h => by omega⟩
    · (repeat (first | with_reducible exact Ext.refl _ | with_reducible assumption | refine Ext.lay ?_ _ _ _ (by omega) (by first | omega | (simp only [lay_n, upd_n, more_n, froz_n]; omega)) | refine Ext.upd ?_ _ _ (by omega) | refine Ext.more ?_ _ (by first | omega | (simp only [lay_n, upd_n, more_n, froz_n]; omega)) | refine Ext.frz ?_ hw _ _ _ (by omega) (by first | omega | (simp only [lay_n, upd_n, more_n, froz_n]; omega))))
    · simp (maxSteps := 2000000) -dsimp (disch := omega) only [↓xpre0, xpost0, xpost1, xpost2, xpost3, facts0, facts1, calls0, St.wf.none hw, Nat.add_assoc, ↓reduceIte, Nat.reduceEqDiff, Nat.reduceMul, Nat.reduceAdd, Nat.reduceSub, Nat.reduceLeDiff, Nat.reduceLT, Int.reduceBEq, Int.reduceBNe, Int.reduceEq, Int.reduceNe, Int.reduceLT, Int.reduceLE, Int.reduceToNat, Int.reduceAdd, Int.reduceSub, Int.reduceMul, Int.cast_ofNat_Int]
    · simp only [List.nil_append, List.drop_zero, Nat.sub_self, List.take_zero]
      exact (glue_nil _ (splitS_ne c l)).symm
  · rintro m fr t ht ⟨i, frm, v, done, hi, rfl, hds, hext, h0, h1, h5, h6, h7, hs, hdl, hfi, hA, hB⟩
    obtain ⟨base, cc, rfl⟩ := hs.slice
    have hsn := hext.n
    by_cases hle : i ≤ l.length
    · have hle' : (i : Int) ≤ (l.length : Int) := by omega
      have hwr : IntKind.i64.wrap ((i : Int) + 1) = ((i + 1 : Nat) : Int) := by rw [wrap_i64 (by omega) (by omega)]; omega
      have hA := hA hle
      have hfi' : (frm : Int) ≤ (i : Int) := by omega
      -- a piece is put behind
      have step : ∀ (Q : Value → St → Prop) (t1 : St) (z : List Value) (b2 : Nat), z = [.string ⟨#[]⟩] → Ext t t1 → t1.h b2 = some (.cells #[str ((l.drop frm).take (i - frm))] 9) →
          (∀ v' t', SlH t' s.n [] 9 1 v' (rowsOf (done ++ [(l.drop frm).take (i - frm)])) → Ext s t' → Q v' t') → XApA false 9 z 1 16 base (rowsOf done).length cc 1 (.slice (some ⟨b2, 0, none⟩) 1 1) t1 ⟨Q, .mk⟩ := by
        intro Q t1 z b2 hz he hb2 hQ
        subst hz
        refine append_one (lo := s.n) (av := []) (rows := rowsOf done) (row := [str ((l.drop frm).take (i - frm))]) (hs.keep he.n fun d hd1 _ hd3 => he.h d hd3) (Nat.le_trans hsn he.n) (by simp) rfl ?_ rfl (by omega) ?_ ?_ ?_
        · rw [rdS_some]
          simp (maxSteps := 2000000) -dsimp (disch := omega) only [hb2, ↓xpre0, xpost0, xpost1, xpost2, xpost3, facts0, facts1, calls0, St.wf.none hw, Nat.add_assoc, ↓reduceIte, Nat.reduceEqDiff, Nat.reduceMul, Nat.reduceAdd, Nat.reduceSub, Nat.reduceLeDiff, Nat.reduceLT, Int.reduceBEq, Int.reduceBNe, Int.reduceEq, Int.reduceNe, Int.reduceLT, Int.reduceLE, Int.reduceToNat, Int.reduceAdd, Int.reduceSub, Int.reduceMul, Int.cast_ofNat_Int]
        · intro v hv; simp at hv; subst hv; rfl
        · simp [rowsOf]; omega
        · intro v' t' hsl hk
          refine hQ v' t' ?_ (hk.ext (hext.trans he))
          have e : rowsOf (done ++ [(l.drop frm).take (i - frm)]) = rowsOf done ++ [[str ((l.drop frm).take (i - frm))]] := by simp [rowsOf]
          rw [e]; exact hsl
      by_cases hlt : i < l.length
      · have hne : ¬ ((i : Int) = (l.length : Int)) := by omega
        have hlt' : (i : Int) < (l.length : Int) := by omega
        have hgi : l.toArray.getD i 0 = l[i] := by simp [hlt]
        have htk : (l.drop frm).take (i + 1 - frm) = (l.drop frm).take (i - frm) ++ [l[i]] := by
          rw [show i + 1 - frm = (i - frm) + 1 by omega, List.take_succ_eq_append_getElem (by simp; omega)]
          simp only [List.getElem_drop, List.append_cancel_left_eq, List.cons.injEq, and_true]
          congr 1; omega
        rw [List.drop_eq_getElem_cons hlt, splitS_cons] at hA
        by_cases hc : l[i] = c
        · rw [if_pos hc] at hA
          have hcc : (l[i].toNat : Int) = (c.toNat : Int) := by rw [hc]
          generalize l[i] = y at *
          simp (maxSteps := 2000000) -dsimp (disch := omega) only [h0, h1, h5, h6, h7, hds, hle', hne, hlt', hwr, hgi, hcc, hfi', decide_true, decide_false, Int.toNat_natCast, bs_extract, ↓Tryz.ntmps18, ↓res18, ↓xpre0, xpost0, xpost1, xpost2, xpost3, facts0, facts1, calls0, St.wf.none hw, Nat.add_assoc, ↓reduceIte, Nat.reduceEqDiff, Nat.reduceMul, Nat.reduceAdd, Nat.reduceSub, Nat.reduceLeDiff, Nat.reduceLT, Int.reduceBEq, Int.reduceBNe, Int.reduceEq, Int.reduceNe, Int.reduceLT, Int.reduceLE, Int.reduceToNat, Int.reduceAdd, Int.reduceSub, Int.reduceMul, Int.cast_ofNat_Int]
          refine ⟨by omega, fun _ => ⟨by omega, fun _ => ⟨by omega, fun _ => ?_⟩⟩⟩
          refine step _ _ _ t.n rfl ?_ ?_ fun v' t' hsl he' => ?_
          · (repeat (first | with_reducible exact Ext.refl _ | with_reducible assumption | refine Ext.lay ?_ _ _ _ (by omega) (by first | omega | (simp only [lay_n, upd_n, more_n, froz_n]; omega)) | refine Ext.upd ?_ _ _ (by omega) | refine Ext.more ?_ _ (by first | omega | (simp only [lay_n, upd_n, more_n, froz_n]; omega)) | refine Ext.frz ?_ hw _ _ _ (by omega) (by first | omega | (simp only [lay_n, upd_n, more_n, froz_n]; omega))))
          · simp (maxSteps := 2000000) -dsimp (disch := omega) only [↓xpre0, xpost0, xpost1, xpost2, xpost3, facts0, facts1, calls0, St.wf.none hw, Nat.add_assoc, ↓reduceIte, Nat.reduceEqDiff, Nat.reduceMul, Nat.reduceAdd, Nat.reduceSub, Nat.reduceLeDiff, Nat.reduceLT, Int.reduceBEq, Int.reduceBNe, Int.reduceEq, Int.reduceNe, Int.reduceLT, Int.reduceLE, Int.reduceToNat, Int.reduceAdd, Int.reduceSub, Int.reduceMul, Int.cast_ofNat_Int]
          simp (maxSteps := 2000000) -dsimp (disch := omega) only [h0, h1, h5, h6, h7, hds, hwr, ↓Tryz.ntmps18, ↓res18, ↓xpre0, xpost0, xpost1, xpost2, xpost3, facts0, facts1, calls0, St.wf.none hw, Nat.add_assoc, ↓reduceIte, Nat.reduceEqDiff, Nat.reduceMul, Nat.reduceAdd, Nat.reduceSub, Nat.reduceLeDiff, Nat.reduceLT, Int.reduceBEq, Int.reduceBNe, Int.reduceEq, Int.reduceNe, Int.reduceLT, Int.reduceLE, Int.reduceToNat, Int.reduceAdd, Int.reduceSub, Int.reduceMul, Int.cast_ofNat_Int]
          refine ⟨l.length + 1 - (i + 1), by omega, i + 1, i + 1, v', _, by omega, rfl, he', rfl, rfl, rfl, hsl, by simp; omega, by omega, fun _ => ?_, fun e => by omega⟩
          rw [hA]
          rw [show glue ((l.drop frm).take (i - frm)) ([] :: splitS c (l.drop (i + 1))) = ((l.drop frm).take (i - frm)) :: splitS c (l.drop (i + 1)) by simp [glue], Nat.sub_self, List.take_zero, glue_nil _ (splitS_ne c _)]
          simp
        · rw [if_neg hc] at hA
          have hcc : ¬ ((l[i].toNat : Int) = (c.toNat : Int)) := fun e => hc (UInt8.toNat_inj.1 (by omega))
          generalize l[i] = y at *
          simp (maxSteps := 2000000) -dsimp (disch := omega) only [h0, h1, h5, h6, h7, hds, hle', hne, hlt', hwr, hgi, hcc, decide_true, decide_false, Int.toNat_natCast, ↓Tryz.ntmps18, ↓res18, ↓xpre0, xpost0, xpost1, xpost2, xpost3, facts0, facts1, calls0, St.wf.none hw, Nat.add_assoc, ↓reduceIte, Nat.reduceEqDiff, Nat.reduceMul, Nat.reduceAdd, Nat.reduceSub, Nat.reduceLeDiff, Nat.reduceLT, Int.reduceBEq, Int.reduceBNe, Int.reduceEq, Int.reduceNe, Int.reduceLT, Int.reduceLE, Int.reduceToNat, Int.reduceAdd, Int.reduceSub, Int.reduceMul, Int.cast_ofNat_Int]
          refine ⟨by omega, fun _ => ⟨l.length + 1 - (i + 1), by omega, i + 1, frm, _, done, by omega, rfl, hext, rfl, rfl, rfl, hs, by omega, by omega, fun _ => ?_, fun e => by omega⟩⟩
          rw [hA, htk, glue_glue _ _ _ (splitS_ne c _)]
      · obtain rfl : i = l.length := by omega
        simp (maxSteps := 2000000) -dsimp (disch := omega) only [h0, h1, h5, h6, h7, hds, hwr, hfi', Int.le_refl, decide_true, decide_false, Int.toNat_natCast, bs_extract, ↓Tryz.ntmps18, ↓res18, ↓xpre0, xpost0, xpost1, xpost2, xpost3, facts0, facts1, calls0, St.wf.none hw, Nat.add_assoc, ↓reduceIte, Nat.reduceEqDiff, Nat.reduceMul, Nat.reduceAdd, Nat.reduceSub, Nat.reduceLeDiff, Nat.reduceLT, Int.reduceBEq, Int.reduceBNe, Int.reduceEq, Int.reduceNe, Int.reduceLT, Int.reduceLE, Int.reduceToNat, Int.reduceAdd, Int.reduceSub, Int.reduceMul, Int.cast_ofNat_Int]
        refine ⟨by omega, fun _ => ⟨by omega, fun _ => ?_⟩⟩
        refine step _ _ _ t.n rfl ?_ ?_ fun v' t' hsl he' => ?_
        · (repeat (first | with_reducible exact Ext.refl _ | with_reducible assumption | refine Ext.lay ?_ _ _ _ (by omega) (by first | omega | (simp only [lay_n, upd_n, more_n, froz_n]; omega)) | refine Ext.upd ?_ _ _ (by omega) | refine Ext.more ?_ _ (by first | omega | (simp only [lay_n, upd_n, more_n, froz_n]; omega)) | refine Ext.frz ?_ hw _ _ _ (by omega) (by first | omega | (simp only [lay_n, upd_n, more_n, froz_n]; omega))))
        · simp (maxSteps := 2000000) -dsimp (disch := omega) only [↓xpre0, xpost0, xpost1, xpost2, xpost3, facts0, facts1, calls0, St.wf.none hw, Nat.add_assoc, ↓reduceIte, Nat.reduceEqDiff, Nat.reduceMul, Nat.reduceAdd, Nat.reduceSub, Nat.reduceLeDiff, Nat.reduceLT, Int.reduceBEq, Int.reduceBNe, Int.reduceEq, Int.reduceNe, Int.reduceLT, Int.reduceLE, Int.reduceToNat, Int.reduceAdd, Int.reduceSub, Int.reduceMul, Int.cast_ofNat_Int]
        simp (maxSteps := 2000000) -dsimp (disch := omega) only [h0, h1, h5, h6, h7, hds, hwr, ↓Tryz.ntmps18, ↓res18, ↓xpre0, xpost0, xpost1, xpost2, xpost3, facts0, facts1, calls0, St.wf.none hw, Nat.add_assoc, ↓reduceIte, Nat.reduceEqDiff, Nat.reduceMul, Nat.reduceAdd, Nat.reduceSub, Nat.reduceLeDiff, Nat.reduceLT, Int.reduceBEq, Int.reduceBNe, Int.reduceEq, Int.reduceNe, Int.reduceLT, Int.reduceLE, Int.reduceToNat, Int.reduceAdd, Int.reduceSub, Int.reduceMul, Int.cast_ofNat_Int]
        refine ⟨l.length + 1 - (l.length + 1), by omega, l.length + 1, _, v', _, by omega, rfl, he', rfl, rfl, rfl, hsl, by simp; omega, by omega, fun e => by omega, fun _ => ?_⟩
        rw [hA, List.drop_length]
        simp [splitS, glue]
    · obtain rfl : i = l.length + 1 := by omega
      have hgt : ¬ (((l.length + 1 : Nat) : Int) ≤ (l.length : Int)) := by omega
      have hd := hB rfl
      simp (maxSteps := 2000000) -dsimp (disch := omega) only [h0, h1, h5, h6, h7, hds, hgt, decide_false, ↓Tryz.ntmps18, ↓res18, ↓xpre0, xpost0, xpost1, xpost2, xpost3, facts0, facts1, calls0, St.wf.none hw, Nat.add_assoc, ↓reduceIte, Nat.reduceEqDiff, Nat.reduceMul, Nat.reduceAdd, Nat.reduceSub, Nat.reduceLeDiff, Nat.reduceLT, Int.reduceBEq, Int.reduceBNe, Int.reduceEq, Int.reduceNe, Int.reduceLT, Int.reduceLE, Int.reduceToNat, Int.reduceAdd, Int.reduceSub, Int.reduceMul, Int.cast_ofNat_Int]
      subst hd
      exact strs_out hw hext (Nat.le_refl _) (splitS_ne c l) hs h
end Go.Proofs.TX
