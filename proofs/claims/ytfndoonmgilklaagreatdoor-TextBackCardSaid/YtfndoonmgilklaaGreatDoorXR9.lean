/- The document's layer 34: Script. -/
import Derived.Test.YtfndoonmgilklaaGreatDoorXR8
set_option linter.unusedSimpArgs false
set_option linter.unusedVariables false
set_option maxRecDepth 100000
set_option maxHeartbeats 4000000
namespace Go.Proofs.TX
open Go
theorem line34_c (B : World) : ∀ args s K, lineSp.run args s K → CallOK Tryz.prog B 16 args s K.K := by
  rintro args s K ⟨o, rfl, h1, h2⟩
  exact line34_c' B o h1 s _ h2
noncomputable def eScript34 (B : World) : Env Tryz.prog := (Env.base Tryz.prog B).ext 16 lineSp (line34_c B)
theorem eScript34_16 (B : World) (args : Array Value) (s : St) (K : Kp (Value → St → Prop)) : XCallOK Tryz.prog (eScript34 B) 16 args s K = lineSp.run args s K := rfl
theorem script34_c' (B : World) (l : List OpS) (hl : l.length ≤ 1000000) (hok : ∀ o ∈ l, o.ok) (v : Value) (s : St) (R : Value → St → Prop) (hv : OpsAt s v l) (h : ∀ n, s.n ≤ n → R (scriptV l) (s.more n)) : CallOK Tryz.prog B 7 #[v] s R := by
  obtain ⟨base, c, rfl⟩ := hv.slice
  refine call_of (eScript34 B) (fun _ => none) mixed Tryz.func7 rfl (by simp [Tryz.ntmps7]) (by kernel_rfl) fun hw => ?_
  simp (maxSteps := 2000000) -dsimp (disch := omega) only [↓Tryz.ntmps7, ↓res7, ↓xpre0, xpost0, xpost1, xpost2, xpost3, facts0, facts1, calls0, St.wf.none hw, Nat.add_assoc, ↓reduceIte, Nat.reduceEqDiff, Nat.reduceMul, Nat.reduceAdd, Nat.reduceSub, Nat.reduceLeDiff, Nat.reduceLT, Int.reduceBEq, Int.reduceBNe, Int.reduceEq, Int.reduceNe, Int.reduceLT, Int.reduceLE, Int.reduceToNat, Int.reduceAdd, Int.reduceSub, Int.reduceMul, Int.cast_ofNat_Int]
  refine loop_wf (pl := fun _ => none) mixed (by kernel_rfl) (fun m fr t => ∃ i acc, i ≤ l.length ∧ m = l.length - i ∧ fr.ds = [] ∧ Ext s t ∧
      fr.ρ 0 = .slice base l.length c ∧ fr.ρ 4 = str acc ∧ fr.ρ 5 = .int .i64 (i : Nat) ∧ acc.length ≤ 201 * i ∧ scriptS l = (scriptS (l.drop i)).map fun r => acc ++ r) l.length ?_ ?_
  · refine ⟨0, [], Nat.zero_le _, rfl, rfl, ?_, rfl, rfl, rfl, by simp, ?_⟩
    · (repeat (first | with_reducible exact Ext.refl _ | with_reducible assumption | refine Ext.lay ?_ _ _ _ (by omega) (by first | omega | (simp only [lay_n, upd_n, more_n, froz_n]; omega)) | refine Ext.upd ?_ _ _ (by omega) | refine Ext.more ?_ _ (by first | omega | (simp only [lay_n, upd_n, more_n, froz_n]; omega)) | refine Ext.frz ?_ hw _ _ _ (by omega) (by first | omega | (simp only [lay_n, upd_n, more_n, froz_n]; omega))))
    · rw [List.drop_zero]; cases scriptS l <;> simp
  · rintro m fr t ht ⟨i, acc, hi, rfl, hds, hext, h0, h4, h5, hacc, hs⟩
    by_cases hlt : i < l.length
    · have hlt' : (i : Int) < (l.length : Int) := by omega
      have hwr : IntKind.i64.wrap ((i : Int) + 1) = ((i + 1 : Nat) : Int) := by rw [wrap_i64 (by omega) (by omega)]; omega
      rcases hv.ext hw hext with ⟨e, _⟩ | ⟨b, off, c', C, T, fz, e, hb1, hb2, hC⟩
      · rw [e] at hlt; simp at hlt
      · cases e
        have hgo : l[i]? = some l[i] := List.getElem?_eq_getElem hlt
        have hoko := hok l[i] (List.getElem_mem hlt)
        have hcs := hC i _ hgo
        rw [List.drop_eq_getElem_cons hlt] at hs
        generalize l[i] = o at hgo hoko hcs hs
        have c0 := hcs 0 _ rfl
        have c1 := hcs 1 _ rfl
        have c2 := hcs 2 _ rfl
        have c3 := hcs 3 _ rfl
        have c4 := hcs 4 _ rfl
        have c5 := hcs 5 _ rfl
        have c6 := hcs 6 _ rfl
        have c7 := hcs 7 _ rfl
        have c8 := hcs 8 _ rfl
        have c9 := hcs 9 _ rfl
        have c10 := hcs 10 _ rfl
        have hi0 : (0 : Int) ≤ (i : Int) := by omega
        simp (maxSteps := 2000000) -dsimp (disch := omega) only [h0, h4, h5, hds, hlt', hwr, hi0, hb1, hb2, Int.toNat_natCast, decide_true, c0, c1, c2, c3, c4, c5, c6, c7, c8, c9, c10, eScript34_16, ↓Tryz.ntmps7, ↓res7, ↓xpre0, xpost0, xpost1, xpost2, xpost3, facts0, facts1, calls0, St.wf.none hw, Nat.add_assoc, ↓reduceIte, Nat.reduceEqDiff, Nat.reduceMul, Nat.reduceAdd, Nat.reduceSub, Nat.reduceLeDiff, Nat.reduceLT, Int.reduceBEq, Int.reduceBNe, Int.reduceEq, Int.reduceNe, Int.reduceLT, Int.reduceLE, Int.reduceToNat, Int.reduceAdd, Int.reduceSub, Int.reduceMul, Int.cast_ofNat_Int]
        refine ⟨o, rfl, hoko, fun n hn2 => ?_⟩
        have hse : scriptS (o :: l.drop (i + 1)) = (lineS o).bind fun t => (scriptS (l.drop (i + 1))).map fun r => t ++ 10 :: r := rfl
        rw [hse] at hs
        cases hlo : lineS o with
        | none =>
          simp only [lineV, hlo]
          simp (maxSteps := 2000000) -dsimp (disch := omega) only [h0, h4, h5, hds, ↓Tryz.ntmps7, ↓res7, ↓xpre0, xpost0, xpost1, xpost2, xpost3, facts0, facts1, calls0, St.wf.none hw, Nat.add_assoc, ↓reduceIte, Nat.reduceEqDiff, Nat.reduceMul, Nat.reduceAdd, Nat.reduceSub, Nat.reduceLeDiff, Nat.reduceLT, Int.reduceBEq, Int.reduceBNe, Int.reduceEq, Int.reduceNe, Int.reduceLT, Int.reduceLE, Int.reduceToNat, Int.reduceAdd, Int.reduceSub, Int.reduceMul, Int.cast_ofNat_Int]
          refine drop_ext hw ?_ (fun n hn => ?_)
          · (repeat (first | with_reducible exact Ext.refl _ | with_reducible assumption | refine Ext.lay ?_ _ _ _ (by omega) (by first | omega | (simp only [lay_n, upd_n, more_n, froz_n]; omega)) | refine Ext.upd ?_ _ _ (by omega) | refine Ext.more ?_ _ (by first | omega | (simp only [lay_n, upd_n, more_n, froz_n]; omega)) | refine Ext.frz ?_ hw _ _ _ (by omega) (by first | omega | (simp only [lay_n, upd_n, more_n, froz_n]; omega))))
          · have := h n hn
            rw [hlo] at hs
            have hs : scriptS l = none := hs
            rw [scriptV, hs] at this; exact this
        | some w =>
          obtain ⟨hw1, hw2⟩ := lineS_length hoko hlo
          simp only [lineV, hlo]
          simp (maxSteps := 2000000) -dsimp (disch := omega) only [h0, h4, h5, hds, hwr, ↓Tryz.ntmps7, ↓res7, ↓xpre0, xpost0, xpost1, xpost2, xpost3, facts0, facts1, calls0, St.wf.none hw, Nat.add_assoc, ↓reduceIte, Nat.reduceEqDiff, Nat.reduceMul, Nat.reduceAdd, Nat.reduceSub, Nat.reduceLeDiff, Nat.reduceLT, Int.reduceBEq, Int.reduceBNe, Int.reduceEq, Int.reduceNe, Int.reduceLT, Int.reduceLE, Int.reduceToNat, Int.reduceAdd, Int.reduceSub, Int.reduceMul, Int.cast_ofNat_Int]
          refine ⟨by omega, fun _ => ⟨by first | omega | (simp only [List.length_append]; omega), fun _ => ⟨l.length - (i + 1), by omega, i + 1, _, by omega, rfl, ?_, rfl, rfl, ?_, ?_⟩⟩⟩
          · (repeat (first | with_reducible exact Ext.refl _ | with_reducible assumption | refine Ext.lay ?_ _ _ _ (by omega) (by first | omega | (simp only [lay_n, upd_n, more_n, froz_n]; omega)) | refine Ext.upd ?_ _ _ (by omega) | refine Ext.more ?_ _ (by first | omega | (simp only [lay_n, upd_n, more_n, froz_n]; omega)) | refine Ext.frz ?_ hw _ _ _ (by omega) (by first | omega | (simp only [lay_n, upd_n, more_n, froz_n]; omega))))
          · simp only [List.length_append, List.length_cons, List.length_nil]; omega
          · rw [hs, hlo, Option.bind_some, Option.map_map]
            congr 1
            funext r; simp
    · have hil : i = l.length := by omega
      subst hil
      rw [List.drop_length] at hs
      have hs : scriptS l = some acc := by rw [hs]; simp [scriptS]
      simp (maxSteps := 2000000) -dsimp (disch := omega) only [h0, h4, h5, hds, Int.lt_irrefl, decide_false, ↓Tryz.ntmps7, ↓res7, ↓xpre0, xpost0, xpost1, xpost2, xpost3, facts0, facts1, calls0, St.wf.none hw, Nat.add_assoc, ↓reduceIte, Nat.reduceEqDiff, Nat.reduceMul, Nat.reduceAdd, Nat.reduceSub, Nat.reduceLeDiff, Nat.reduceLT, Int.reduceBEq, Int.reduceBNe, Int.reduceEq, Int.reduceNe, Int.reduceLT, Int.reduceLE, Int.reduceToNat, Int.reduceAdd, Int.reduceSub, Int.reduceMul, Int.cast_ofNat_Int]
      refine drop_ext hw hext (fun n hn => ?_)
      have := h n hn
      rw [scriptV, hs] at this; exact this
end Go.Proofs.TX
