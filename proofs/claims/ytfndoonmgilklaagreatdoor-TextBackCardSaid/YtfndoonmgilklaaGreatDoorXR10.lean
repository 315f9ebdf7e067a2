/- The document's layer 34: Read. -/
import Derived.Test.YtfndoonmgilklaaGreatDoorXR9
set_option linter.unusedSimpArgs false
set_option linter.unusedVariables false
set_option maxRecDepth 100000
set_option maxHeartbeats 4000000
namespace Go.Proofs.TX
open Go
theorem parse19_c2 (B : World) : ∀ args s K, parseSp.run args s K → CallOK Tryz.prog B 19 args s K.K := by
  rintro args s K ⟨o, rfl, h1, h2⟩
  exact parse19_c B o h1 s _ h2
noncomputable def eRead34 (B : World) : Env Tryz.prog := ((Env.base Tryz.prog B).ext 18 split18Sp (split18_c2 B)).ext 19 parseSp (parse19_c2 B)
theorem eRead34_18 (B : World) (args : Array Value) (s : St) (K : Kp (Value → St → Prop)) : XCallOK Tryz.prog (eRead34 B) 18 args s K = split18Sp.run args s K := rfl
theorem eRead34_19 (B : World) (args : Array Value) (s : St) (K : Kp (Value → St → Prop)) : XCallOK Tryz.prog (eRead34 B) 19 args s K = parseSp.run args s K := rfl
theorem read34_c' (B : World) (l : Bs) (hl : l.length ≤ 100000) (s : St) (R : Value → St → Prop)
    (h : ∀ v s', Grow s s' → OpsAt s' v (readTS l).1 → R (.tuple #[v, .int .i64 (readTS l).2.1, .int .i64 (readTS l).2.2]) s') : CallOK Tryz.prog B 9 #[str l] s R := by
  have hinj := fun a b : Bs => propext (bs_inj a b)
  by_cases hlong : 20000 < l.length
  · have hlong' : (l.length : Int) > 20000 := by omega
    have e : readTS l = ([], 0, 13) := by unfold readTS; rw [if_pos hlong]
    rw [e] at h
    refine call_of (eRead34 B) (fun _ => none) mixed Tryz.func9 rfl (by simp [Tryz.ntmps9]) (by kernel_rfl) fun hw => ?_
    simp (maxSteps := 2000000) -dsimp (disch := omega) only [hlong', ↓Tryz.ntmps9, ↓res9, ↓xpre0, xpost0, xpost1, xpost2, xpost3, facts0, facts1, calls0, St.wf.none hw, Nat.add_assoc, ↓reduceIte, Nat.reduceEqDiff, Nat.reduceMul, Nat.reduceAdd, Nat.reduceSub, Nat.reduceLeDiff, Nat.reduceLT, Int.reduceBEq, Int.reduceBNe, Int.reduceEq, Int.reduceNe, Int.reduceLT, Int.reduceLE, Int.reduceToNat, Int.reduceAdd, Int.reduceSub, Int.reduceMul, Int.cast_ofNat_Int]
    refine drop_ext hw ?_ fun n hn => h _ _ (Grow.more s hn) (.inl ⟨rfl, none, 0, rfl⟩)
    (repeat (first | with_reducible exact Ext.refl _ | with_reducible assumption | refine Ext.lay ?_ _ _ _ (by omega) (by first | omega | (simp only [lay_n, upd_n, more_n, froz_n]; omega)) | refine Ext.upd ?_ _ _ (by omega) | refine Ext.more ?_ _ (by first | omega | (simp only [lay_n, upd_n, more_n, froz_n]; omega)) | refine Ext.frz ?_ hw _ _ _ (by omega) (by first | omega | (simp only [lay_n, upd_n, more_n, froz_n]; omega))))
  · have hlong' : ¬ ((l.length : Int) > 20000) := by omega
    have e : readTS l = readGo 0 [] (splitS 10 l) := by unfold readTS; rw [if_neg hlong]
    rw [e] at h
    have hsl := splitS_length 10 l
    have hpc := splitS_piece 10 l
    refine call_of (eRead34 B) (fun _ => none) mixed Tryz.func9 rfl (by simp [Tryz.ntmps9]) (by kernel_rfl) fun hw => ?_
    simp (maxSteps := 2000000) -dsimp (disch := omega) only [hlong', eRead34_18, ↓Tryz.ntmps9, ↓res9, ↓xpre0, xpost0, xpost1, xpost2, xpost3, facts0, facts1, calls0, St.wf.none hw, Nat.add_assoc, ↓reduceIte, Nat.reduceEqDiff, Nat.reduceMul, Nat.reduceAdd, Nat.reduceSub, Nat.reduceLeDiff, Nat.reduceLT, Int.reduceBEq, Int.reduceBNe, Int.reduceEq, Int.reduceNe, Int.reduceLT, Int.reduceLE, Int.reduceToNat, Int.reduceAdd, Int.reduceSub, Int.reduceMul, Int.cast_ofNat_Int]
    refine ⟨l, 10, rfl, by omega, fun vs s1 hg hst => ?_⟩
    generalize splitS 10 l = L at h hsl hpc hst
    obtain ⟨b, cS, C, T, fz, rfl, hb0, hb1, hb2, hC⟩ := hst
    have g3 : Ext s s1 := hg.ext
    have g1 := hg.n
    simp (maxSteps := 2000000) -dsimp (disch := omega) only [↓Tryz.ntmps9, ↓res9, ↓xpre0, xpost0, xpost1, xpost2, xpost3, facts0, facts1, calls0, St.wf.none hw, Nat.add_assoc, ↓reduceIte, Nat.reduceEqDiff, Nat.reduceMul, Nat.reduceAdd, Nat.reduceSub, Nat.reduceLeDiff, Nat.reduceLT, Int.reduceBEq, Int.reduceBNe, Int.reduceEq, Int.reduceNe, Int.reduceLT, Int.reduceLE, Int.reduceToNat, Int.reduceAdd, Int.reduceSub, Int.reduceMul, Int.cast_ofNat_Int]
    refine loop_wf (pl := fun _ => none) mixed (by kernel_rfl) (fun m fr t => ∃ i v out, i ≤ L.length ∧ m = L.length - i ∧ fr.ds = [] ∧ Ext s t ∧ s1.n ≤ t.n ∧
      fr.ρ 6 = .slice (some ⟨b, 0, none⟩) L.length cS ∧ fr.ρ 7 = .int .i64 (i : Nat) ∧ fr.ρ 5 = v ∧ t.h b = none ∧ t.σ b = some (.cells C T fz) ∧
      SlH t s1.n [] 35 11 v (out.map OpS.cells) ∧ out.length ≤ 2000 ∧ readGo 0 [] L = readGo i out (L.drop i)) L.length ?_ ?_
    · refine ⟨0, _, [], Nat.zero_le _, rfl, rfl, ?_, ?_, rfl, rfl, rfl, hb1, hb2, .inl ⟨rfl, ?_⟩, by simp, rfl⟩
      · (repeat (first | with_reducible exact Ext.refl _ | with_reducible assumption | refine Ext.lay ?_ _ _ _ (by omega) (by first | omega | (simp only [lay_n, upd_n, more_n, froz_n]; omega)) | refine Ext.upd ?_ _ _ (by omega) | refine Ext.more ?_ _ (by first | omega | (simp only [lay_n, upd_n, more_n, froz_n]; omega)) | refine Ext.frz ?_ hw _ _ _ (by omega) (by first | omega | (simp only [lay_n, upd_n, more_n, froz_n]; omega))))
      · omega
      · simp (maxSteps := 2000000) -dsimp (disch := omega) only [↓xpre0, xpost0, xpost1, xpost2, xpost3, facts0, facts1, calls0, St.wf.none hw, Nat.add_assoc, ↓reduceIte, Nat.reduceEqDiff, Nat.reduceMul, Nat.reduceAdd, Nat.reduceSub, Nat.reduceLeDiff, Nat.reduceLT, Int.reduceBEq, Int.reduceBNe, Int.reduceEq, Int.reduceNe, Int.reduceLT, Int.reduceLE, Int.reduceToNat, Int.reduceAdd, Int.reduceSub, Int.reduceMul, Int.cast_ofNat_Int]
    · rintro m fr t ht ⟨i, v, out, hi, rfl, hds, hext, hn, h6, h7, h5, m1, m2, hs, ho, hr⟩
      obtain ⟨base, c, rfl⟩ := hs.slice
      by_cases hlt : i < L.length
      · have hlt' : (i : Int) < (L.length : Int) := by omega
        have hi0 : (0 : Int) ≤ (i : Int) := by omega
        have hwr : IntKind.i64.wrap ((i : Int) + 1) = ((i + 1 : Nat) : Int) := by rw [wrap_i64 (by omega) (by omega)]; omega
        have hw9 : C[i]? = some (str L[i]) := hC i _ (by simp [hlt])
        have hwl := hpc L[i] (List.getElem_mem hlt)
        rw [List.drop_eq_getElem_cons hlt, readGo] at hr
        generalize L[i] = w at hw9 hwl hr
        by_cases hnil : w = []
        · subst hnil
          rw [if_pos (by rfl)] at hr
          simp (maxSteps := 2000000) -dsimp (disch := omega) only [h6, h7, h5, m1, m2, hds, hlt', hi0, hwr, Int.toNat_natCast, Nat.mul_one, Nat.zero_add, hw9, hinj, eq_self_iff_true, decide_true, ↓Tryz.ntmps9, ↓res9, ↓xpre0, xpost0, xpost1, xpost2, xpost3, facts0, facts1, calls0, St.wf.none hw, Nat.add_assoc, ↓reduceIte, Nat.reduceEqDiff, Nat.reduceMul, Nat.reduceAdd, Nat.reduceSub, Nat.reduceLeDiff, Nat.reduceLT, Int.reduceBEq, Int.reduceBNe, Int.reduceEq, Int.reduceNe, Int.reduceLT, Int.reduceLE, Int.reduceToNat, Int.reduceAdd, Int.reduceSub, Int.reduceMul, Int.cast_ofNat_Int]
          exact ⟨L.length - (i + 1), by omega, i + 1, _, out, by omega, rfl, hext, hn, rfl, rfl, hs, ho, hr⟩
        · obtain ⟨q, w', rfl⟩ : ∃ q w', w = q :: w' := by
            cases w with
            | nil => exact absurd rfl hnil
            | cons q w' => exact ⟨q, w', rfl⟩
          have hg0 : (q :: w').toArray.getD 0 0 = q := rfl
          have h0p : (0 : Int) < ((w'.length + 1 : Nat) : Int) := by omega
          by_cases hq : (q.toNat : Int) = 35
          · have hq' : q = 35 := UInt8.toNat_inj.1 (by have : (35 : UInt8).toNat = 35 := rfl; omega)
            have hsk : skipL (q :: w') = true := by subst hq'; rfl
            rw [if_pos hsk] at hr
            simp (maxSteps := 2000000) -dsimp (disch := omega) only [h6, h7, h5, m1, m2, hds, hlt', hi0, hwr, Int.toNat_natCast, Nat.mul_one, Nat.zero_add, hw9, hinj, hnil, decide_false, hg0, h0p, hq, decide_true, ↓Tryz.ntmps9, ↓res9, ↓xpre0, xpost0, xpost1, xpost2, xpost3, facts0, facts1, calls0, St.wf.none hw, Nat.add_assoc, ↓reduceIte, Nat.reduceEqDiff, Nat.reduceMul, Nat.reduceAdd, Nat.reduceSub, Nat.reduceLeDiff, Nat.reduceLT, Int.reduceBEq, Int.reduceBNe, Int.reduceEq, Int.reduceNe, Int.reduceLT, Int.reduceLE, Int.reduceToNat, Int.reduceAdd, Int.reduceSub, Int.reduceMul, Int.cast_ofNat_Int]
            exact ⟨L.length - (i + 1), by omega, i + 1, _, out, by omega, rfl, hext, hn, rfl, rfl, hs, ho, hr⟩
          · have hsk : skipL (q :: w') = false := by
              have : q ≠ 35 := by rintro rfl; exact hq rfl
              simp [skipL, this]
            rw [if_neg (by simp [hsk])] at hr
            simp (maxSteps := 2000000) -dsimp (disch := omega) only [h6, h7, h5, m1, m2, hds, hlt', hi0, hwr, Int.toNat_natCast, Nat.mul_one, Nat.zero_add, hw9, hinj, hnil, decide_false, decide_true, hg0, h0p, hq, eRead34_19, ↓Tryz.ntmps9, ↓res9, ↓xpre0, xpost0, xpost1, xpost2, xpost3, facts0, facts1, calls0, St.wf.none hw, Nat.add_assoc, ↓reduceIte, Nat.reduceEqDiff, Nat.reduceMul, Nat.reduceAdd, Nat.reduceSub, Nat.reduceLeDiff, Nat.reduceLT, Int.reduceBEq, Int.reduceBNe, Int.reduceEq, Int.reduceNe, Int.reduceLT, Int.reduceLE, Int.reduceToNat, Int.reduceAdd, Int.reduceSub, Int.reduceMul, Int.cast_ofNat_Int]
            refine ⟨q :: w', rfl, by omega, fun n hn2 => ?_⟩
            simp only [parseV]
            generalize parseS (q :: w') = rp at hr
            obtain ⟨o, e⟩ := rp
            simp only at hr ⊢
            by_cases he : e = 0
            · subst he
              simp only [ne_eq, not_true_eq_false, if_false] at hr
              by_cases h2000 : out.length = 2000
              · rw [if_pos h2000] at hr
                have h2000' : ((out.map OpS.cells).length : Int) = 2000 := by simp [h2000]
                simp (maxSteps := 2000000) -dsimp (disch := omega) only [h6, h7, h5, m1, m2, hds, hwr, OpS.cells, h2000', decide_true, ↓Tryz.ntmps9, ↓res9, ↓xpre0, xpost0, xpost1, xpost2, xpost3, facts0, facts1, calls0, St.wf.none hw, Nat.add_assoc, ↓reduceIte, Nat.reduceEqDiff, Nat.reduceMul, Nat.reduceAdd, Nat.reduceSub, Nat.reduceLeDiff, Nat.reduceLT, Int.reduceBEq, Int.reduceBNe, Int.reduceEq, Int.reduceNe, Int.reduceLT, Int.reduceLE, Int.reduceToNat, Int.reduceAdd, Int.reduceSub, Int.reduceMul, Int.cast_ofNat_Int]
                rw [hr] at h
                refine drop_ext hw ?_ fun n hn => h _ _ (Grow.more s hn) (.inl ⟨rfl, none, 0, rfl⟩)
                (repeat (first | with_reducible exact Ext.refl _ | with_reducible assumption | refine Ext.lay ?_ _ _ _ (by omega) (by first | omega | (simp only [lay_n, upd_n, more_n, froz_n]; omega)) | refine Ext.upd ?_ _ _ (by omega) | refine Ext.more ?_ _ (by first | omega | (simp only [lay_n, upd_n, more_n, froz_n]; omega)) | refine Ext.frz ?_ hw _ _ _ (by omega) (by first | omega | (simp only [lay_n, upd_n, more_n, froz_n]; omega))))
              · rw [if_neg h2000] at hr
                have h2000' : ¬ (((out.map OpS.cells).length : Int) = 2000) := by simp; omega
                simp (maxSteps := 2000000) -dsimp (disch := omega) only [h6, h7, h5, m1, m2, hds, hwr, OpS.cells, h2000', decide_false, ↓Tryz.ntmps9, ↓res9, ↓xpre0, xpost0, xpost1, xpost2, xpost3, facts0, facts1, calls0, St.wf.none hw, Nat.add_assoc, ↓reduceIte, Nat.reduceEqDiff, Nat.reduceMul, Nat.reduceAdd, Nat.reduceSub, Nat.reduceLeDiff, Nat.reduceLT, Int.reduceBEq, Int.reduceBNe, Int.reduceEq, Int.reduceNe, Int.reduceLT, Int.reduceLE, Int.reduceToNat, Int.reduceAdd, Int.reduceSub, Int.reduceMul, Int.cast_ofNat_Int]
                refine append_one (lo := s1.n) (av := []) (rows := out.map OpS.cells) (row := o.cells) (hs.keep ?_ ?_) ?_ ?_ rfl ?_ rfl (by omega) ?_ ?_ ?_
                · simp (maxSteps := 2000000) -dsimp (disch := omega) only [↓xpre0, xpost0, xpost1, xpost2, xpost3, facts0, facts1, calls0, St.wf.none hw, Nat.add_assoc, ↓reduceIte, Nat.reduceEqDiff, Nat.reduceMul, Nat.reduceAdd, Nat.reduceSub, Nat.reduceLeDiff, Nat.reduceLT, Int.reduceBEq, Int.reduceBNe, Int.reduceEq, Int.reduceNe, Int.reduceLT, Int.reduceLE, Int.reduceToNat, Int.reduceAdd, Int.reduceSub, Int.reduceMul, Int.cast_ofNat_Int]
                  try omega
                · intro d hd1 hd2 hd3
                  simp (maxSteps := 2000000) -dsimp (disch := omega) only [↓xpre0, xpost0, xpost1, xpost2, xpost3, facts0, facts1, calls0, St.wf.none hw, Nat.add_assoc, ↓reduceIte, Nat.reduceEqDiff, Nat.reduceMul, Nat.reduceAdd, Nat.reduceSub, Nat.reduceLeDiff, Nat.reduceLT, Int.reduceBEq, Int.reduceBNe, Int.reduceEq, Int.reduceNe, Int.reduceLT, Int.reduceLE, Int.reduceToNat, Int.reduceAdd, Int.reduceSub, Int.reduceMul, Int.cast_ofNat_Int]
                · simp (maxSteps := 2000000) -dsimp (disch := omega) only [↓xpre0, xpost0, xpost1, xpost2, xpost3, facts0, facts1, calls0, St.wf.none hw, Nat.add_assoc, ↓reduceIte, Nat.reduceEqDiff, Nat.reduceMul, Nat.reduceAdd, Nat.reduceSub, Nat.reduceLeDiff, Nat.reduceLT, Int.reduceBEq, Int.reduceBNe, Int.reduceEq, Int.reduceNe, Int.reduceLT, Int.reduceLE, Int.reduceToNat, Int.reduceAdd, Int.reduceSub, Int.reduceMul, Int.cast_ofNat_Int]
                  try omega
                · intro d hd; cases hd
                · rw [rdS_some]
                  simp (maxSteps := 2000000) -dsimp (disch := omega) only [OpS.cells, ↓xpre0, xpost0, xpost1, xpost2, xpost3, facts0, facts1, calls0, St.wf.none hw, Nat.add_assoc, ↓reduceIte, Nat.reduceEqDiff, Nat.reduceMul, Nat.reduceAdd, Nat.reduceSub, Nat.reduceLeDiff, Nat.reduceLT, Int.reduceBEq, Int.reduceBNe, Int.reduceEq, Int.reduceNe, Int.reduceLT, Int.reduceLE, Int.reduceToNat, Int.reduceAdd, Int.reduceSub, Int.reduceMul, Int.cast_ofNat_Int]
                · intro v hv
                  simp only [OpS.cells, List.mem_cons, List.not_mem_nil, or_false] at hv
                  rcases hv with rfl | rfl | rfl | rfl | rfl | rfl | rfl | rfl | rfl | rfl | rfl <;> rfl
                · simp; omega
                · intro v' t' hsl' hk
                  have k1 : t'.h b = none := by
                    rw [hk.h b (.inl hb0)]
                    simp (maxSteps := 2000000) -dsimp (disch := omega) only [m1, ↓xpre0, xpost0, xpost1, xpost2, xpost3, facts0, facts1, calls0, St.wf.none hw, Nat.add_assoc, ↓reduceIte, Nat.reduceEqDiff, Nat.reduceMul, Nat.reduceAdd, Nat.reduceSub, Nat.reduceLeDiff, Nat.reduceLT, Int.reduceBEq, Int.reduceBNe, Int.reduceEq, Int.reduceNe, Int.reduceLT, Int.reduceLE, Int.reduceToNat, Int.reduceAdd, Int.reduceSub, Int.reduceMul, Int.cast_ofNat_Int]
                  have k2 : t'.σ b = some (.cells C T fz) := by
                    rw [hk.σ]
                    simp (maxSteps := 2000000) -dsimp (disch := omega) only [m2, ↓xpre0, xpost0, xpost1, xpost2, xpost3, facts0, facts1, calls0, St.wf.none hw, Nat.add_assoc, ↓reduceIte, Nat.reduceEqDiff, Nat.reduceMul, Nat.reduceAdd, Nat.reduceSub, Nat.reduceLeDiff, Nat.reduceLT, Int.reduceBEq, Int.reduceBNe, Int.reduceEq, Int.reduceNe, Int.reduceLT, Int.reduceLE, Int.reduceToNat, Int.reduceAdd, Int.reduceSub, Int.reduceMul, Int.cast_ofNat_Int]
                  have k3 := hk.n
                  simp only [lay_n] at k3
                  have k4 : Ext s t' := by
                    refine ⟨fun b o hbo => ?_, ?_, fun b hb => ?_⟩
                    · rw [hk.σ]; exact hext.σ b o hbo
                    · have := hext.n; omega
                    · rw [hk.h b (.inl (by omega))]
                      simp (maxSteps := 2000000) -dsimp (disch := omega) only [↓xpre0, xpost0, xpost1, xpost2, xpost3, facts0, facts1, calls0, St.wf.none hw, Nat.add_assoc, ↓reduceIte, Nat.reduceEqDiff, Nat.reduceMul, Nat.reduceAdd, Nat.reduceSub, Nat.reduceLeDiff, Nat.reduceLT, Int.reduceBEq, Int.reduceBNe, Int.reduceEq, Int.reduceNe, Int.reduceLT, Int.reduceLE, Int.reduceToNat, Int.reduceAdd, Int.reduceSub, Int.reduceMul, Int.cast_ofNat_Int]
                      exact hext.h b hb
                  simp (maxSteps := 2000000) -dsimp (disch := omega) only [h6, h7, h5, k1, k2, hds, hwr, ↓Tryz.ntmps9, ↓res9, ↓xpre0, xpost0, xpost1, xpost2, xpost3, facts0, facts1, calls0, St.wf.none hw, Nat.add_assoc, ↓reduceIte, Nat.reduceEqDiff, Nat.reduceMul, Nat.reduceAdd, Nat.reduceSub, Nat.reduceLeDiff, Nat.reduceLT, Int.reduceBEq, Int.reduceBNe, Int.reduceEq, Int.reduceNe, Int.reduceLT, Int.reduceLE, Int.reduceToNat, Int.reduceAdd, Int.reduceSub, Int.reduceMul, Int.cast_ofNat_Int]
                  refine ⟨L.length - (i + 1), by omega, i + 1, v', out ++ [o], by omega, rfl, k4, by omega, rfl, rfl, ?_, ?_, hr⟩
                  · rw [List.map_append]; exact hsl'
                  · simp; omega
            · rw [if_pos he] at hr
              simp (maxSteps := 2000000) -dsimp (disch := omega) only [h6, h7, h5, m1, m2, hds, hwr, OpS.cells, he, decide_false, ↓Tryz.ntmps9, ↓res9, ↓xpre0, xpost0, xpost1, xpost2, xpost3, facts0, facts1, calls0, St.wf.none hw, Nat.add_assoc, ↓reduceIte, Nat.reduceEqDiff, Nat.reduceMul, Nat.reduceAdd, Nat.reduceSub, Nat.reduceLeDiff, Nat.reduceLT, Int.reduceBEq, Int.reduceBNe, Int.reduceEq, Int.reduceNe, Int.reduceLT, Int.reduceLE, Int.reduceToNat, Int.reduceAdd, Int.reduceSub, Int.reduceMul, Int.cast_ofNat_Int]
              rw [hr] at h
              refine drop_ext hw ?_ fun n hn => h _ _ (Grow.more s hn) (.inl ⟨rfl, none, 0, rfl⟩)
              (repeat (first | with_reducible exact Ext.refl _ | with_reducible assumption | refine Ext.lay ?_ _ _ _ (by omega) (by first | omega | (simp only [lay_n, upd_n, more_n, froz_n]; omega)) | refine Ext.upd ?_ _ _ (by omega) | refine Ext.more ?_ _ (by first | omega | (simp only [lay_n, upd_n, more_n, froz_n]; omega)) | refine Ext.frz ?_ hw _ _ _ (by omega) (by first | omega | (simp only [lay_n, upd_n, more_n, froz_n]; omega))))
      · have hil : i = L.length := by omega
        subst hil
        rw [List.drop_length, readGo] at hr
        rw [hr] at h
        simp (maxSteps := 2000000) -dsimp (disch := omega) only [h6, h7, h5, hds, Int.lt_irrefl, decide_false, ↓Tryz.ntmps9, ↓res9, ↓xpre0, xpost0, xpost1, xpost2, xpost3, facts0, facts1, calls0, St.wf.none hw, Nat.add_assoc, ↓reduceIte, Nat.reduceEqDiff, Nat.reduceMul, Nat.reduceAdd, Nat.reduceSub, Nat.reduceLeDiff, Nat.reduceLT, Int.reduceBEq, Int.reduceBNe, Int.reduceEq, Int.reduceNe, Int.reduceLT, Int.reduceLE, Int.reduceToNat, Int.reduceAdd, Int.reduceSub, Int.reduceMul, Int.cast_ofNat_Int]
        exact ops_out (f := fun v => .tuple #[v, .int .i64 0, .int .i64 0]) hw hext g1 hs h
end Go.Proofs.TX
