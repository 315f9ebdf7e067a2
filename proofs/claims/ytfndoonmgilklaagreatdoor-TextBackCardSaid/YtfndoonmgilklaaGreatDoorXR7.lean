/- The document's layer 34: Parse. -/
import Derived.Test.YtfndoonmgilklaaGreatDoorXR6
set_option linter.unusedSimpArgs false
set_option linter.unusedVariables false
set_option maxRecDepth 100000
set_option maxHeartbeats 4000000
namespace Go.Proofs.TX
open Go
def split18Sp : Spec where
  run args s K := ∃ (l : Bs) (c : UInt8), args = #[str l, .int .u8 c.toNat] ∧ l.length ≤ 1000000 ∧ ∀ (v : Value) (s' : St), Grow s s' → StrsAt s' v (splitS c l) → K.K v s'
  mono args s K K' h := fun ⟨l, c, h1, h2, h3⟩ => ⟨l, c, h1, h2, fun v s' a b => h _ _ (h3 v s' a b)⟩
theorem split18_c2 (B : World) : ∀ args s K, split18Sp.run args s K → CallOK Tryz.prog B 18 args s K.K := by
  rintro args s K ⟨l, c, rfl, h1, h2⟩
  exact split18_c B l h1 c s _ h2
def read42Sp : Spec where
  run args s K := ∃ l : Bs, args = #[str l] ∧ ∀ n, s.n ≤ n → K.K (match readW l with | some w => .tuple #[.int .u64 (w : Nat), .int .i64 0] | none => .tuple #[.int .u64 0, .int .i64 4]) (s.more n)
  mono args s K K' h := fun ⟨l, h1, h2⟩ => ⟨l, h1, fun n hn => h _ _ (h2 n hn)⟩
theorem read42_c2 (B : World) : ∀ args s K, read42Sp.run args s K → CallOK Tryz.prog B 42 args s K.K := by
  rintro args s K ⟨l, rfl, h⟩
  exact read42_c B l s _ h
def val43Sp : Spec where
  run args s K := ∃ l : Bs, args = #[str l] ∧ l.length ≤ 281474976710656 ∧ ∀ n k x, s.n ≤ n → (∀ p, valR l = some p → p = (k, x)) → K.K (.tuple #[.agg #[.int .i64 k, .int .i64 x], .bool (valR l).isSome]) (s.more n)
  mono args s K K' h := fun ⟨l, h1, h2, h3⟩ => ⟨l, h1, h2, fun n k x hn hp => h _ _ (h3 n k x hn hp)⟩
theorem val43_c2 (B : World) : ∀ args s K, val43Sp.run args s K → CallOK Tryz.prog B 43 args s K.K := by
  rintro args s K ⟨l, rfl, h1, h⟩
  exact val43_c B l h1 s _ h
def withSp : Spec where
  run args s K := ∃ (o : OpS) (c n : Int), args = #[o.val, .int .u8 c, .int .i64 n] ∧ ∀ m, s.n ≤ m → K.K (withS o c n).val (s.more m)
  mono args s K K' h := fun ⟨o, c, n, h1, h2⟩ => ⟨o, c, n, h1, fun m hm => h _ _ (h2 m hm)⟩
theorem with_c2 (B : World) : ∀ args s K, withSp.run args s K → CallOK Tryz.prog B 44 args s K.K := by
  rintro args s K ⟨o, c, n, rfl, h⟩
  exact with_c' B o c n s _ h
noncomputable def eParse34 (B : World) : Env Tryz.prog := (((((((Env.base Tryz.prog B).ext 18 split18Sp (split18_c2 B)).ext 40 (.fn opOfF) (of31_c B)).ext 34 (.fn usesF) (uses31_c B)).ext 41 num41Sp (num41_c B)).ext 42 read42Sp (read42_c2 B)).ext 43 val43Sp (val43_c2 B)).ext 44 withSp (with_c2 B)
theorem eParse34_18 (B : World) (args : Array Value) (s : St) (K : Kp (Value → St → Prop)) : XCallOK Tryz.prog (eParse34 B) 18 args s K = split18Sp.run args s K := rfl
theorem eParse34_40 (B : World) (l : Bs) (s : St) (K : Kp (Value → St → Prop)) : XCallOK Tryz.prog (eParse34 B) 40 #[str l] s K = XMore s (.int .i64 (ofS l)) K := by
  show (Spec.fn opOfF).run #[str l] s K = _
  exact Spec.fn_run (by simp [opOfF]) s K
theorem eParse34_34 (B : World) (d : Int) (s : St) (K : Kp (Value → St → Prop)) : XCallOK Tryz.prog (eParse34 B) 34 #[.int .i64 d] s K = XMore s (str (opUses d)) K := rfl
theorem eParse34_41 (B : World) (args : Array Value) (s : St) (K : Kp (Value → St → Prop)) : XCallOK Tryz.prog (eParse34 B) 41 args s K = num41Sp.run args s K := rfl
theorem eParse34_42 (B : World) (args : Array Value) (s : St) (K : Kp (Value → St → Prop)) : XCallOK Tryz.prog (eParse34 B) 42 args s K = read42Sp.run args s K := rfl
theorem eParse34_43 (B : World) (args : Array Value) (s : St) (K : Kp (Value → St → Prop)) : XCallOK Tryz.prog (eParse34 B) 43 args s K = val43Sp.run args s K := rfl
theorem eParse34_44 (B : World) (args : Array Value) (s : St) (K : Kp (Value → St → Prop)) : XCallOK Tryz.prog (eParse34 B) 44 args s K = withSp.run args s K := rfl
def pl19 : Nat → Option DPlan := fun i => if i = 16 then some (tks [0, 1, 2, 3, 4] (.one 5 [] (.one 6 [] .done))) else none
theorem pl19_16 : pl19 16 = some (tks [0, 1, 2, 3, 4] (.one 5 [] (.one 6 [] .done))) := rfl
theorem parse19_c (B : World) (l : Bs) (hl : l.length ≤ 100000) (s : St) (R : Value → St → Prop) (h : ∀ n, s.n ≤ n → R (parseV l) (s.more n)) : CallOK Tryz.prog B 19 #[str l] s R := by
  refine call_of (eParse34 B) pl19 mixed Tryz.func19 rfl (by simp [Tryz.ntmps19]) (by kernel_rfl) fun hw => ?_
  simp (maxSteps := 2000000) -dsimp (disch := omega) only [eParse34_18, ↓Tryz.ntmps19, ↓res19, ↓xpre0, xpost0, xpost1, xpost2, xpost3, facts0, facts1, calls0, St.wf.none hw, Nat.add_assoc, ↓reduceIte, Nat.reduceEqDiff, Nat.reduceMul, Nat.reduceAdd, Nat.reduceSub, Nat.reduceLeDiff, Nat.reduceLT, Int.reduceBEq, Int.reduceBNe, Int.reduceEq, Int.reduceNe, Int.reduceLT, Int.reduceLE, Int.reduceToNat, Int.reduceAdd, Int.reduceSub, Int.reduceMul, Int.cast_ofNat_Int]
  refine ⟨l, 32, rfl, by omega, fun v s1 hg hst => ?_⟩
  have hsl := splitS_length 32 l
  have hpc := splitS_piece 32 l
  obtain ⟨n, ws, hws⟩ : ∃ n ws, splitS 32 l = n :: ws := by
    cases hs : splitS 32 l with
    | nil => exact absurd hs (splitS_ne _ _)
    | cons n ws => exact ⟨n, ws, rfl⟩
  have hP : parseS l = parseW n ws := by unfold parseS; rw [hws]
  rw [hws] at hsl hpc hst
  simp only [List.length_cons] at hsl
  obtain ⟨b, c, C, T, fz, rfl, hb0, hb1, hb2, hC⟩ := hst
  have g1 := hg.n
  simp only [lay_n] at g1
  have g2 : s1.h s.n = some (.cells (OpS.zero 0).cells.toArray 35) := by
    rw [hg.h]
    simp (maxSteps := 2000000) -dsimp (disch := omega) only [OpS.cells, OpS.zero, ↓xpre0, xpost0, xpost1, xpost2, xpost3, facts0, facts1, calls0, St.wf.none hw, Nat.add_assoc, ↓reduceIte, Nat.reduceEqDiff, Nat.reduceMul, Nat.reduceAdd, Nat.reduceSub, Nat.reduceLeDiff, Nat.reduceLT, Int.reduceBEq, Int.reduceBNe, Int.reduceEq, Int.reduceNe, Int.reduceLT, Int.reduceLE, Int.reduceToNat, Int.reduceAdd, Int.reduceSub, Int.reduceMul, Int.cast_ofNat_Int]
  have g3 : Ext s s1 := by
    refine Ext.trans ?_ hg.ext
    (repeat (first | with_reducible exact Ext.refl _ | with_reducible assumption | refine Ext.lay ?_ _ _ _ (by omega) (by first | omega | (simp only [lay_n, upd_n, more_n, froz_n]; omega)) | refine Ext.upd ?_ _ _ (by omega) | refine Ext.more ?_ _ (by first | omega | (simp only [lay_n, upd_n, more_n, froz_n]; omega)) | refine Ext.frz ?_ hw _ _ _ (by omega) (by first | omega | (simp only [lay_n, upd_n, more_n, froz_n]; omega))))
  have hC0 : C[0]? = some (str n) := hC 0 n rfl
  have hu4 := opUses_length (ofS n)
  have w1 : IntKind.i64.wrap (((ws.length + 1 : Nat) : Int) - 1) = (ws.length : Int) := by rw [wrap_i64 (by omega) (by omega)]; omega
  have h0p : (0 : Int) < ((ws.length + 1 : Nat) : Int) := by omega
  simp (maxSteps := 2000000) -dsimp (disch := omega) only [hb1, hb2, hC0, h0p, eParse34_40, ↓Tryz.ntmps19, ↓res19, ↓xpre0, xpost0, xpost1, xpost2, xpost3, facts0, facts1, calls0, St.wf.none hw, Nat.add_assoc, ↓reduceIte, Nat.reduceEqDiff, Nat.reduceMul, Nat.reduceAdd, Nat.reduceSub, Nat.reduceLeDiff, Nat.reduceLT, Int.reduceBEq, Int.reduceBNe, Int.reduceEq, Int.reduceNe, Int.reduceLT, Int.reduceLE, Int.reduceToNat, Int.reduceAdd, Int.reduceSub, Int.reduceMul, Int.cast_ofNat_Int]
  refine XMore_intro fun k1 => ?_
  have fin : ∀ {t : St} {o : OpS} {e : Int}, s.wf → Ext s t → parseW n ws = (o, e) → Drop R (.tuple #[.agg o.cells.toArray, .int .i64 e]) t := by
    intro t o e hw he hp
    refine drop_ext hw he fun n hn => ?_
    have := h n hn
    rw [parseV, hP, hp] at this; exact this
  by_cases e0 : ofS n = 0
  · simp (maxSteps := 2000000) -dsimp (disch := omega) only [g2, e0, decide_true, eq_self_iff_true, OpS.cells, OpS.zero, ↓Tryz.ntmps19, ↓res19, ↓xpre0, xpost0, xpost1, xpost2, xpost3, facts0, facts1, calls0, St.wf.none hw, Nat.add_assoc, ↓reduceIte, Nat.reduceEqDiff, Nat.reduceMul, Nat.reduceAdd, Nat.reduceSub, Nat.reduceLeDiff, Nat.reduceLT, Int.reduceBEq, Int.reduceBNe, Int.reduceEq, Int.reduceNe, Int.reduceLT, Int.reduceLE, Int.reduceToNat, Int.reduceAdd, Int.reduceSub, Int.reduceMul, Int.cast_ofNat_Int]
    refine fin (o := .zero 0) hw ?_ (by unfold parseW; rw [if_pos e0])
    (repeat (first | with_reducible exact Ext.refl _ | with_reducible assumption | refine Ext.lay ?_ _ _ _ (by omega) (by first | omega | (simp only [lay_n, upd_n, more_n, froz_n]; omega)) | refine Ext.upd ?_ _ _ (by omega) | refine Ext.more ?_ _ (by first | omega | (simp only [lay_n, upd_n, more_n, froz_n]; omega)) | refine Ext.frz ?_ hw _ _ _ (by omega) (by first | omega | (simp only [lay_n, upd_n, more_n, froz_n]; omega))))
  · simp (maxSteps := 2000000) -dsimp (disch := omega) only [e0, decide_false, eParse34_34, ↓Tryz.ntmps19, ↓res19, ↓xpre0, xpost0, xpost1, xpost2, xpost3, facts0, facts1, calls0, St.wf.none hw, Nat.add_assoc, ↓reduceIte, Nat.reduceEqDiff, Nat.reduceMul, Nat.reduceAdd, Nat.reduceSub, Nat.reduceLeDiff, Nat.reduceLT, Int.reduceBEq, Int.reduceBNe, Int.reduceEq, Int.reduceNe, Int.reduceLT, Int.reduceLE, Int.reduceToNat, Int.reduceAdd, Int.reduceSub, Int.reduceMul, Int.cast_ofNat_Int]
    refine XMore_intro fun k2 => ?_
    by_cases e1 : ws.length < (opUses (ofS n)).length
    · have e1' : (ws.length : Int) < ((opUses (ofS n)).length : Int) := by omega
      simp (maxSteps := 2000000) -dsimp (disch := omega) only [g2, w1, e1', decide_true, OpS.cells, OpS.zero, ↓Tryz.ntmps19, ↓res19, ↓xpre0, xpost0, xpost1, xpost2, xpost3, facts0, facts1, calls0, St.wf.none hw, Nat.add_assoc, ↓reduceIte, Nat.reduceEqDiff, Nat.reduceMul, Nat.reduceAdd, Nat.reduceSub, Nat.reduceLeDiff, Nat.reduceLT, Int.reduceBEq, Int.reduceBNe, Int.reduceEq, Int.reduceNe, Int.reduceLT, Int.reduceLE, Int.reduceToNat, Int.reduceAdd, Int.reduceSub, Int.reduceMul, Int.cast_ofNat_Int]
      refine fin (o := .zero 0) hw ?_ (by unfold parseW; rw [if_neg e0, if_pos e1])
      (repeat (first | with_reducible exact Ext.refl _ | with_reducible assumption | refine Ext.lay ?_ _ _ _ (by omega) (by first | omega | (simp only [lay_n, upd_n, more_n, froz_n]; omega)) | refine Ext.upd ?_ _ _ (by omega) | refine Ext.more ?_ _ (by first | omega | (simp only [lay_n, upd_n, more_n, froz_n]; omega)) | refine Ext.frz ?_ hw _ _ _ (by omega) (by first | omega | (simp only [lay_n, upd_n, more_n, froz_n]; omega))))
    · have e1' : ¬ ((ws.length : Int) < ((opUses (ofS n)).length : Int)) := by omega
      by_cases e2 : (opUses (ofS n)).length < ws.length
      · have e2' : (ws.length : Int) > ((opUses (ofS n)).length : Int) := by omega
        simp (maxSteps := 2000000) -dsimp (disch := omega) only [g2, w1, e1', e2', decide_true, decide_false, OpS.cells, OpS.zero, ↓Tryz.ntmps19, ↓res19, ↓xpre0, xpost0, xpost1, xpost2, xpost3, facts0, facts1, calls0, St.wf.none hw, Nat.add_assoc, ↓reduceIte, Nat.reduceEqDiff, Nat.reduceMul, Nat.reduceAdd, Nat.reduceSub, Nat.reduceLeDiff, Nat.reduceLT, Int.reduceBEq, Int.reduceBNe, Int.reduceEq, Int.reduceNe, Int.reduceLT, Int.reduceLE, Int.reduceToNat, Int.reduceAdd, Int.reduceSub, Int.reduceMul, Int.cast_ofNat_Int]
        refine fin (o := .zero 0) hw ?_ (by unfold parseW; rw [if_neg e0, if_neg e1, if_pos e2])
        (repeat (first | with_reducible exact Ext.refl _ | with_reducible assumption | refine Ext.lay ?_ _ _ _ (by omega) (by first | omega | (simp only [lay_n, upd_n, more_n, froz_n]; omega)) | refine Ext.upd ?_ _ _ (by omega) | refine Ext.more ?_ _ (by first | omega | (simp only [lay_n, upd_n, more_n, froz_n]; omega)) | refine Ext.frz ?_ hw _ _ _ (by omega) (by first | omega | (simp only [lay_n, upd_n, more_n, froz_n]; omega))))
      · have e2' : ¬ ((ws.length : Int) > ((opUses (ofS n)).length : Int)) := by omega
        have hlen : ws.length = (opUses (ofS n)).length := by omega
        simp (maxSteps := 2000000) -dsimp (disch := omega) only [g2, w1, e1', e2', decide_true, decide_false, OpS.cells, OpS.zero, ↓Tryz.ntmps19, ↓res19, ↓xpre0, xpost0, xpost1, xpost2, xpost3, facts0, facts1, calls0, St.wf.none hw, Nat.add_assoc, ↓reduceIte, Nat.reduceEqDiff, Nat.reduceMul, Nat.reduceAdd, Nat.reduceSub, Nat.reduceLeDiff, Nat.reduceLT, Int.reduceBEq, Int.reduceBNe, Int.reduceEq, Int.reduceNe, Int.reduceLT, Int.reduceLE, Int.reduceToNat, Int.reduceAdd, Int.reduceSub, Int.reduceMul, Int.cast_ofNat_Int]
        refine loop_wf (pl := pl19) mixed (by kernel_rfl) (fun m fr t => ∃ p oc ob, p ≤ (opUses (ofS n)).length ∧ m = (opUses (ofS n)).length - p ∧ fr.ds = [] ∧ Ext s t ∧ s1.n ≤ ob ∧ ob < t.n ∧
            fr.ρ 2 = .pointer (some ⟨s.n, 0, none⟩) ∧ fr.ρ 4 = .slice (some ⟨b, 0, none⟩) (ws.length + 1) c ∧ fr.ρ 5 = .pointer (some ⟨ob, 0, none⟩) ∧ fr.ρ 6 = str (opUses (ofS n)) ∧ fr.ρ 7 = .int .i64 (p : Nat) ∧
            t.h s.n = some (.cells (OpS.zero 0).cells.toArray 35) ∧ t.h ob = some (.cells oc.cells.toArray 35) ∧ t.h b = none ∧ t.σ b = some (.cells C T fz) ∧
            fieldsR (opUses (ofS n)) ws (.zero (ofS n)) = fieldsR ((opUses (ofS n)).drop p) (ws.drop p) oc) (opUses (ofS n)).length ?_ ?_
        · refine ⟨0, .zero (ofS n), _, Nat.zero_le _, rfl, rfl, ?_, ?_, ?_, rfl, rfl, rfl, rfl, rfl, ?_, ?_, ?_, ?_, rfl⟩
          · (repeat (first | with_reducible exact Ext.refl _ | with_reducible assumption | refine Ext.lay ?_ _ _ _ (by omega) (by first | omega | (simp only [lay_n, upd_n, more_n, froz_n]; omega)) | refine Ext.upd ?_ _ _ (by omega) | refine Ext.more ?_ _ (by first | omega | (simp only [lay_n, upd_n, more_n, froz_n]; omega)) | refine Ext.frz ?_ hw _ _ _ (by omega) (by first | omega | (simp only [lay_n, upd_n, more_n, froz_n]; omega))))
          · omega
          · simp (maxSteps := 2000000) -dsimp (disch := omega) only [↓xpre0, xpost0, xpost1, xpost2, xpost3, facts0, facts1, calls0, St.wf.none hw, Nat.add_assoc, ↓reduceIte, Nat.reduceEqDiff, Nat.reduceMul, Nat.reduceAdd, Nat.reduceSub, Nat.reduceLeDiff, Nat.reduceLT, Int.reduceBEq, Int.reduceBNe, Int.reduceEq, Int.reduceNe, Int.reduceLT, Int.reduceLE, Int.reduceToNat, Int.reduceAdd, Int.reduceSub, Int.reduceMul, Int.cast_ofNat_Int]
            try omega
          · simp (maxSteps := 2000000) -dsimp (disch := omega) only [g2, OpS.cells, OpS.zero, ↓xpre0, xpost0, xpost1, xpost2, xpost3, facts0, facts1, calls0, St.wf.none hw, Nat.add_assoc, ↓reduceIte, Nat.reduceEqDiff, Nat.reduceMul, Nat.reduceAdd, Nat.reduceSub, Nat.reduceLeDiff, Nat.reduceLT, Int.reduceBEq, Int.reduceBNe, Int.reduceEq, Int.reduceNe, Int.reduceLT, Int.reduceLE, Int.reduceToNat, Int.reduceAdd, Int.reduceSub, Int.reduceMul, Int.cast_ofNat_Int]
          · simp (maxSteps := 2000000) -dsimp (disch := omega) only [OpS.cells, OpS.zero, ↓xpre0, xpost0, xpost1, xpost2, xpost3, facts0, facts1, calls0, St.wf.none hw, Nat.add_assoc, ↓reduceIte, Nat.reduceEqDiff, Nat.reduceMul, Nat.reduceAdd, Nat.reduceSub, Nat.reduceLeDiff, Nat.reduceLT, Int.reduceBEq, Int.reduceBNe, Int.reduceEq, Int.reduceNe, Int.reduceLT, Int.reduceLE, Int.reduceToNat, Int.reduceAdd, Int.reduceSub, Int.reduceMul, Int.cast_ofNat_Int]
          · simp (maxSteps := 2000000) -dsimp (disch := omega) only [hb1, ↓xpre0, xpost0, xpost1, xpost2, xpost3, facts0, facts1, calls0, St.wf.none hw, Nat.add_assoc, ↓reduceIte, Nat.reduceEqDiff, Nat.reduceMul, Nat.reduceAdd, Nat.reduceSub, Nat.reduceLeDiff, Nat.reduceLT, Int.reduceBEq, Int.reduceBNe, Int.reduceEq, Int.reduceNe, Int.reduceLT, Int.reduceLE, Int.reduceToNat, Int.reduceAdd, Int.reduceSub, Int.reduceMul, Int.cast_ofNat_Int]
          · simp (maxSteps := 2000000) -dsimp (disch := omega) only [hb2, ↓xpre0, xpost0, xpost1, xpost2, xpost3, facts0, facts1, calls0, St.wf.none hw, Nat.add_assoc, ↓reduceIte, Nat.reduceEqDiff, Nat.reduceMul, Nat.reduceAdd, Nat.reduceSub, Nat.reduceLeDiff, Nat.reduceLT, Int.reduceBEq, Int.reduceBNe, Int.reduceEq, Int.reduceNe, Int.reduceLT, Int.reduceLE, Int.reduceToNat, Int.reduceAdd, Int.reduceSub, Int.reduceMul, Int.cast_ofNat_Int]
        · rintro m fr t ht ⟨p, oc, ob, hp1, rfl, hds, hext, hb3, hb4, h2, h4, h5, h6, h7, m1, m2, m4, m5, hf⟩
          by_cases hlt : p < (opUses (ofS n)).length
          · have hlt' : (p : Int) < ((opUses (ofS n)).length : Int) := by omega
            have hlt2 : p < ws.length := by omega
            have hwp : IntKind.i64.wrap ((p : Int) + 1) = ((p + 1 : Nat) : Int) := by rw [wrap_i64 (by omega) (by omega)]; omega
            have hw9 : C[p + 1]? = some (str ws[p]) := hC (p + 1) _ (by simp [hlt2])
            have hwl := hpc ws[p] (by simp [List.getElem_mem])
            have hgp : (opUses (ofS n)).toArray.getD p 0 = (opUses (ofS n))[p] := by simp [hlt]
            rw [List.drop_eq_getElem_cons hlt, List.drop_eq_getElem_cons hlt2, fieldsR] at hf
            generalize (opUses (ofS n))[p] = q at hgp hf
            generalize ws[p] = w at hw9 hwl hf
            have hp0 : (0 : Int) ≤ (p : Int) := by omega
            have hp2 : ((p + 1 : Nat) : Int) < ((ws.length + 1 : Nat) : Int) := by omega
            have hp3 : (0 : Int) ≤ ((p + 1 : Nat) : Int) := by omega
            -- what the end of a round owes
            have bad : ∀ {t' : St}, Ext s t' → fieldR oc q.toNat w = none → Drop R (.tuple #[.agg (OpS.zero 0).cells.toArray, .int .i64 12]) t' := by
              intro t' he hn
              rw [hn] at hf
              exact fin (o := .zero 0) hw he (by unfold parseW; rw [if_neg e0, if_neg e1, if_neg e2, hf]; rfl)
            have m1' := m1
            have m2' := m2
            simp only [OpS.cells, OpS.zero] at m1'
            simp only [OpS.cells] at m2'
            simp (maxSteps := 2000000) -dsimp (disch := omega) only [h2, h4, h5, h6, h7, m1', m2', m4, m5, hds, hlt', hwp, hgp, hw9, hp0, hp2, hp3, Int.toNat_natCast, Nat.mul_one, Nat.zero_add, eParse34_41, ↓Tryz.ntmps19, ↓res19, ↓xpre0, xpost0, xpost1, xpost2, xpost3, facts0, facts1, calls0, St.wf.none hw, Nat.add_assoc, ↓reduceIte, Nat.reduceEqDiff, Nat.reduceMul, Nat.reduceAdd, Nat.reduceSub, Nat.reduceLeDiff, Nat.reduceLT, Int.reduceBEq, Int.reduceBNe, Int.reduceEq, Int.reduceNe, Int.reduceLT, Int.reduceLE, Int.reduceToNat, Int.reduceAdd, Int.reduceSub, Int.reduceMul, Int.cast_ofNat_Int]
            refine ⟨w, rfl, by omega, fun n' x hn' hx => ?_⟩
            have hobs : s.n ≠ ob := by omega
            by_cases c1 : q = 112
            · subst c1
              have q1 : ((112 : UInt8).toNat : Int) = 112 := rfl
              have hfr : fieldR oc 112 w = (numberS w).bind fun n => if 0 ≤ n ∧ n ≤ 255 then some { oc with policy := n } else none := by unfold fieldR; rw [if_pos rfl]
              rw [q1] at hf bad
              cases hns : numberS w with
              | none =>
                rw [hns] at hfr
                simp (maxSteps := 2000000) -dsimp (disch := omega) only [h2, h4, h5, h6, h7, m1', m2', m4, m5, hds, hlt', hwp, hgp, q1, hp0, Int.toNat_natCast, hns, Option.isSome_none, decide_true, ↓Tryz.ntmps19, ↓res19, ↓xpre0, xpost0, xpost1, xpost2, xpost3, facts0, facts1, calls0, St.wf.none hw, Nat.add_assoc, ↓reduceIte, Nat.reduceEqDiff, Nat.reduceMul, Nat.reduceAdd, Nat.reduceSub, Nat.reduceLeDiff, Nat.reduceLT, Int.reduceBEq, Int.reduceBNe, Int.reduceEq, Int.reduceNe, Int.reduceLT, Int.reduceLE, Int.reduceToNat, Int.reduceAdd, Int.reduceSub, Int.reduceMul, Int.cast_ofNat_Int]
                refine bad ?_ hfr
                (repeat (first | with_reducible exact Ext.refl _ | with_reducible assumption | refine Ext.lay ?_ _ _ _ (by omega) (by first | omega | (simp only [lay_n, upd_n, more_n, froz_n]; omega)) | refine Ext.upd ?_ _ _ (by omega) | refine Ext.more ?_ _ (by first | omega | (simp only [lay_n, upd_n, more_n, froz_n]; omega)) | refine Ext.frz ?_ hw _ _ _ (by omega) (by first | omega | (simp only [lay_n, upd_n, more_n, froz_n]; omega))))
              | some v =>
                obtain rfl := hx.2 v hns
                rw [hns] at hfr
                simp only [Option.bind_some] at hfr
                by_cases hb5 : 0 ≤ x ∧ x ≤ 255
                · rw [if_pos hb5] at hfr
                  have r1 : x ≥ 0 := hb5.1
                  have r2 : x ≤ 255 := hb5.2
                  simp (maxSteps := 2000000) -dsimp (disch := omega) only [h2, h4, h5, h6, h7, m1', m2', m4, m5, hds, hlt', hwp, hgp, hp0, Int.toNat_natCast, q1, hns, Option.isSome_some, r1, r2, decide_true, wrap_u8 hb5.1 hb5.2, ↓Tryz.ntmps19, ↓res19, ↓xpre0, xpost0, xpost1, xpost2, xpost3, facts0, facts1, calls0, St.wf.none hw, Nat.add_assoc, ↓reduceIte, Nat.reduceEqDiff, Nat.reduceMul, Nat.reduceAdd, Nat.reduceSub, Nat.reduceLeDiff, Nat.reduceLT, Int.reduceBEq, Int.reduceBNe, Int.reduceEq, Int.reduceNe, Int.reduceLT, Int.reduceLE, Int.reduceToNat, Int.reduceAdd, Int.reduceSub, Int.reduceMul, Int.cast_ofNat_Int]
                  rw [hfr] at hf
                  refine ⟨(opUses (ofS n)).length - (p + 1), by omega, p + 1, { oc with policy := x }, ob, by omega, rfl, ?_, hb3, ?_, rfl, rfl, ?_⟩
                  · (repeat (first | with_reducible exact Ext.refl _ | with_reducible assumption | refine Ext.lay ?_ _ _ _ (by omega) (by first | omega | (simp only [lay_n, upd_n, more_n, froz_n]; omega)) | refine Ext.upd ?_ _ _ (by omega) | refine Ext.more ?_ _ (by first | omega | (simp only [lay_n, upd_n, more_n, froz_n]; omega)) | refine Ext.frz ?_ hw _ _ _ (by omega) (by first | omega | (simp only [lay_n, upd_n, more_n, froz_n]; omega))))
                  · omega
                  · refine ⟨rfl, ?_, hf⟩
                    simp (maxSteps := 2000000) -dsimp (disch := omega) only [OpS.cells, ↓xpre0, xpost0, xpost1, xpost2, xpost3, facts0, facts1, calls0, St.wf.none hw, Nat.add_assoc, ↓reduceIte, Nat.reduceEqDiff, Nat.reduceMul, Nat.reduceAdd, Nat.reduceSub, Nat.reduceLeDiff, Nat.reduceLT, Int.reduceBEq, Int.reduceBNe, Int.reduceEq, Int.reduceNe, Int.reduceLT, Int.reduceLE, Int.reduceToNat, Int.reduceAdd, Int.reduceSub, Int.reduceMul, Int.cast_ofNat_Int]
                · rw [if_neg hb5] at hfr
                  by_cases r1 : x ≥ 0
                  · have r2 : ¬ (x ≤ 255) := by omega
                    simp (maxSteps := 2000000) -dsimp (disch := omega) only [h2, h4, h5, h6, h7, m1', m2', m4, m5, hds, hlt', hwp, hgp, hp0, Int.toNat_natCast, q1, hns, Option.isSome_some, r1, r2, decide_true, decide_false, ↓Tryz.ntmps19, ↓res19, ↓xpre0, xpost0, xpost1, xpost2, xpost3, facts0, facts1, calls0, St.wf.none hw, Nat.add_assoc, ↓reduceIte, Nat.reduceEqDiff, Nat.reduceMul, Nat.reduceAdd, Nat.reduceSub, Nat.reduceLeDiff, Nat.reduceLT, Int.reduceBEq, Int.reduceBNe, Int.reduceEq, Int.reduceNe, Int.reduceLT, Int.reduceLE, Int.reduceToNat, Int.reduceAdd, Int.reduceSub, Int.reduceMul, Int.cast_ofNat_Int]
                    refine bad ?_ hfr
                    (repeat (first | with_reducible exact Ext.refl _ | with_reducible assumption | refine Ext.lay ?_ _ _ _ (by omega) (by first | omega | (simp only [lay_n, upd_n, more_n, froz_n]; omega)) | refine Ext.upd ?_ _ _ (by omega) | refine Ext.more ?_ _ (by first | omega | (simp only [lay_n, upd_n, more_n, froz_n]; omega)) | refine Ext.frz ?_ hw _ _ _ (by omega) (by first | omega | (simp only [lay_n, upd_n, more_n, froz_n]; omega))))
                  · simp (maxSteps := 2000000) -dsimp (disch := omega) only [h2, h4, h5, h6, h7, m1', m2', m4, m5, hds, hlt', hwp, hgp, hp0, Int.toNat_natCast, q1, hns, Option.isSome_some, r1, decide_true, decide_false, ↓Tryz.ntmps19, ↓res19, ↓xpre0, xpost0, xpost1, xpost2, xpost3, facts0, facts1, calls0, St.wf.none hw, Nat.add_assoc, ↓reduceIte, Nat.reduceEqDiff, Nat.reduceMul, Nat.reduceAdd, Nat.reduceSub, Nat.reduceLeDiff, Nat.reduceLT, Int.reduceBEq, Int.reduceBNe, Int.reduceEq, Int.reduceNe, Int.reduceLT, Int.reduceLE, Int.reduceToNat, Int.reduceAdd, Int.reduceSub, Int.reduceMul, Int.cast_ofNat_Int]
                    refine bad ?_ hfr
                    (repeat (first | with_reducible exact Ext.refl _ | with_reducible assumption | refine Ext.lay ?_ _ _ _ (by omega) (by first | omega | (simp only [lay_n, upd_n, more_n, froz_n]; omega)) | refine Ext.upd ?_ _ _ (by omega) | refine Ext.more ?_ _ (by first | omega | (simp only [lay_n, upd_n, more_n, froz_n]; omega)) | refine Ext.frz ?_ hw _ _ _ (by omega) (by first | omega | (simp only [lay_n, upd_n, more_n, froz_n]; omega))))
            · have q1 : ¬ ((q.toNat : Int) = 112) := by
                intro e
                have : q.toNat = (112 : UInt8).toNat := by have : (112 : UInt8).toNat = 112 := rfl; omega
                exact c1 (UInt8.toNat_inj.1 this)
              by_cases c2 : q = 119
              · subst c2
                have q2 : ((119 : UInt8).toNat : Int) = 119 := rfl
                have q3 : ¬ ((119 : Int) = 112) := by omega
                rw [q2] at hf bad
                simp (maxSteps := 2000000) -dsimp (disch := omega) only [h2, h4, h5, h6, h7, m1', m2', m4, m5, hds, hlt', hwp, hgp, hp0, Int.toNat_natCast, q2, q3, decide_true, decide_false, eParse34_42, ↓Tryz.ntmps19, ↓res19, ↓xpre0, xpost0, xpost1, xpost2, xpost3, facts0, facts1, calls0, St.wf.none hw, Nat.add_assoc, ↓reduceIte, Nat.reduceEqDiff, Nat.reduceMul, Nat.reduceAdd, Nat.reduceSub, Nat.reduceLeDiff, Nat.reduceLT, Int.reduceBEq, Int.reduceBNe, Int.reduceEq, Int.reduceNe, Int.reduceLT, Int.reduceLE, Int.reduceToNat, Int.reduceAdd, Int.reduceSub, Int.reduceMul, Int.cast_ofNat_Int]
                refine ⟨w, rfl, fun n2 hn2 => ?_⟩
                simp only [more_n] at hn2
                cases hr : readW w with
                | none =>
                  have hfr : fieldR oc 119 w = none := by unfold fieldR; rw [if_neg (by omega), if_pos rfl, hr]; rfl
                  simp (maxSteps := 2000000) -dsimp (disch := omega) only [h2, h4, h5, h6, h7, m1', m2', m4, m5, hds, hlt', hwp, hgp, hp0, Int.toNat_natCast, decide_true, decide_false, ↓Tryz.ntmps19, ↓res19, ↓xpre0, xpost0, xpost1, xpost2, xpost3, facts0, facts1, calls0, St.wf.none hw, Nat.add_assoc, ↓reduceIte, Nat.reduceEqDiff, Nat.reduceMul, Nat.reduceAdd, Nat.reduceSub, Nat.reduceLeDiff, Nat.reduceLT, Int.reduceBEq, Int.reduceBNe, Int.reduceEq, Int.reduceNe, Int.reduceLT, Int.reduceLE, Int.reduceToNat, Int.reduceAdd, Int.reduceSub, Int.reduceMul, Int.cast_ofNat_Int]
                  refine bad ?_ hfr
                  (repeat (first | with_reducible exact Ext.refl _ | with_reducible assumption | refine Ext.lay ?_ _ _ _ (by omega) (by first | omega | (simp only [lay_n, upd_n, more_n, froz_n]; omega)) | refine Ext.upd ?_ _ _ (by omega) | refine Ext.more ?_ _ (by first | omega | (simp only [lay_n, upd_n, more_n, froz_n]; omega)) | refine Ext.frz ?_ hw _ _ _ (by omega) (by first | omega | (simp only [lay_n, upd_n, more_n, froz_n]; omega))))
                | some u =>
                  have hfr : fieldR oc 119 w = some { oc with w := (u : Int) } := by unfold fieldR; rw [if_neg (by omega), if_pos rfl, hr]; rfl
                  simp (maxSteps := 2000000) -dsimp (disch := omega) only [h2, h4, h5, h6, h7, m1', m2', m4, m5, hds, hlt', hwp, hgp, hp0, Int.toNat_natCast, decide_true, decide_false, ↓Tryz.ntmps19, ↓res19, ↓xpre0, xpost0, xpost1, xpost2, xpost3, facts0, facts1, calls0, St.wf.none hw, Nat.add_assoc, ↓reduceIte, Nat.reduceEqDiff, Nat.reduceMul, Nat.reduceAdd, Nat.reduceSub, Nat.reduceLeDiff, Nat.reduceLT, Int.reduceBEq, Int.reduceBNe, Int.reduceEq, Int.reduceNe, Int.reduceLT, Int.reduceLE, Int.reduceToNat, Int.reduceAdd, Int.reduceSub, Int.reduceMul, Int.cast_ofNat_Int]
                  rw [hfr] at hf
                  refine ⟨(opUses (ofS n)).length - (p + 1), by omega, p + 1, { oc with w := (u : Int) }, ob, by omega, rfl, ?_, hb3, ?_, rfl, rfl, ?_⟩
                  · (repeat (first | with_reducible exact Ext.refl _ | with_reducible assumption | refine Ext.lay ?_ _ _ _ (by omega) (by first | omega | (simp only [lay_n, upd_n, more_n, froz_n]; omega)) | refine Ext.upd ?_ _ _ (by omega) | refine Ext.more ?_ _ (by first | omega | (simp only [lay_n, upd_n, more_n, froz_n]; omega)) | refine Ext.frz ?_ hw _ _ _ (by omega) (by first | omega | (simp only [lay_n, upd_n, more_n, froz_n]; omega))))
                  · omega
                  · refine ⟨rfl, ?_, hf⟩
                    simp (maxSteps := 2000000) -dsimp (disch := omega) only [OpS.cells, ↓xpre0, xpost0, xpost1, xpost2, xpost3, facts0, facts1, calls0, St.wf.none hw, Nat.add_assoc, ↓reduceIte, Nat.reduceEqDiff, Nat.reduceMul, Nat.reduceAdd, Nat.reduceSub, Nat.reduceLeDiff, Nat.reduceLT, Int.reduceBEq, Int.reduceBNe, Int.reduceEq, Int.reduceNe, Int.reduceLT, Int.reduceLE, Int.reduceToNat, Int.reduceAdd, Int.reduceSub, Int.reduceMul, Int.cast_ofNat_Int]
              · have q2 : ¬ ((q.toNat : Int) = 119) := by
                  intro e
                  have : q.toNat = (119 : UInt8).toNat := by have : (119 : UInt8).toNat = 119 := rfl; omega
                  exact c2 (UInt8.toNat_inj.1 this)
                by_cases c3 : q = 118
                · subst c3
                  have q3 : ((118 : UInt8).toNat : Int) = 118 := rfl
                  have q4 : ¬ ((118 : Int) = 112) := by omega
                  have q5 : ¬ ((118 : Int) = 119) := by omega
                  have hfr : fieldR oc 118 w = (valR w).map fun p => { oc with vk := p.1, vx := p.2 } := by unfold fieldR; rw [if_neg (by omega), if_neg (by omega), if_pos rfl]
                  rw [q3] at hf bad
                  simp (maxSteps := 2000000) -dsimp (disch := omega) only [h2, h4, h5, h6, h7, m1', m2', m4, m5, hds, hlt', hwp, hgp, hp0, Int.toNat_natCast, q3, q4, q5, decide_true, decide_false, eParse34_43, ↓Tryz.ntmps19, ↓res19, ↓xpre0, xpost0, xpost1, xpost2, xpost3, facts0, facts1, calls0, St.wf.none hw, Nat.add_assoc, ↓reduceIte, Nat.reduceEqDiff, Nat.reduceMul, Nat.reduceAdd, Nat.reduceSub, Nat.reduceLeDiff, Nat.reduceLT, Int.reduceBEq, Int.reduceBNe, Int.reduceEq, Int.reduceNe, Int.reduceLT, Int.reduceLE, Int.reduceToNat, Int.reduceAdd, Int.reduceSub, Int.reduceMul, Int.cast_ofNat_Int]
                  refine ⟨w, rfl, by omega, fun n2 k x2 hn2 hp => ?_⟩
                  simp only [more_n] at hn2
                  cases hr : valR w with
                  | none =>
                    rw [hr] at hfr
                    simp (maxSteps := 2000000) -dsimp (disch := omega) only [h2, h4, h5, h6, h7, m1', m2', m4, m5, hds, hlt', hwp, hgp, hp0, Int.toNat_natCast, Option.isSome_none, decide_true, decide_false, ↓Tryz.ntmps19, ↓res19, ↓xpre0, xpost0, xpost1, xpost2, xpost3, facts0, facts1, calls0, St.wf.none hw, Nat.add_assoc, ↓reduceIte, Nat.reduceEqDiff, Nat.reduceMul, Nat.reduceAdd, Nat.reduceSub, Nat.reduceLeDiff, Nat.reduceLT, Int.reduceBEq, Int.reduceBNe, Int.reduceEq, Int.reduceNe, Int.reduceLT, Int.reduceLE, Int.reduceToNat, Int.reduceAdd, Int.reduceSub, Int.reduceMul, Int.cast_ofNat_Int]
                    refine bad ?_ hfr
                    (repeat (first | with_reducible exact Ext.refl _ | with_reducible assumption | refine Ext.lay ?_ _ _ _ (by omega) (by first | omega | (simp only [lay_n, upd_n, more_n, froz_n]; omega)) | refine Ext.upd ?_ _ _ (by omega) | refine Ext.more ?_ _ (by first | omega | (simp only [lay_n, upd_n, more_n, froz_n]; omega)) | refine Ext.frz ?_ hw _ _ _ (by omega) (by first | omega | (simp only [lay_n, upd_n, more_n, froz_n]; omega))))
                  | some u =>
                    obtain rfl := hp u hr
                    rw [hr] at hfr
                    have hfr : fieldR oc 118 w = some { oc with vk := k, vx := x2 } := hfr
                    simp (maxSteps := 2000000) -dsimp (disch := omega) only [h2, h4, h5, h6, h7, m1', m2', m4, m5, hds, hlt', hwp, hgp, hp0, Int.toNat_natCast, Option.isSome_some, decide_true, decide_false, ↓Tryz.ntmps19, ↓res19, ↓xpre0, xpost0, xpost1, xpost2, xpost3, facts0, facts1, calls0, St.wf.none hw, Nat.add_assoc, ↓reduceIte, Nat.reduceEqDiff, Nat.reduceMul, Nat.reduceAdd, Nat.reduceSub, Nat.reduceLeDiff, Nat.reduceLT, Int.reduceBEq, Int.reduceBNe, Int.reduceEq, Int.reduceNe, Int.reduceLT, Int.reduceLE, Int.reduceToNat, Int.reduceAdd, Int.reduceSub, Int.reduceMul, Int.cast_ofNat_Int]
                    rw [hfr] at hf
                    refine ⟨(opUses (ofS n)).length - (p + 1), by omega, p + 1, { oc with vk := k, vx := x2 }, ob, by omega, rfl, ?_, hb3, ?_, rfl, rfl, ?_⟩
                    · (repeat (first | with_reducible exact Ext.refl _ | with_reducible assumption | refine Ext.lay ?_ _ _ _ (by omega) (by first | omega | (simp only [lay_n, upd_n, more_n, froz_n]; omega)) | refine Ext.upd ?_ _ _ (by omega) | refine Ext.more ?_ _ (by first | omega | (simp only [lay_n, upd_n, more_n, froz_n]; omega)) | refine Ext.frz ?_ hw _ _ _ (by omega) (by first | omega | (simp only [lay_n, upd_n, more_n, froz_n]; omega))))
                    · omega
                    · refine ⟨rfl, ?_, hf⟩
                      simp (maxSteps := 2000000) -dsimp (disch := omega) only [OpS.cells, ↓xpre0, xpost0, xpost1, xpost2, xpost3, facts0, facts1, calls0, St.wf.none hw, Nat.add_assoc, ↓reduceIte, Nat.reduceEqDiff, Nat.reduceMul, Nat.reduceAdd, Nat.reduceSub, Nat.reduceLeDiff, Nat.reduceLT, Int.reduceBEq, Int.reduceBNe, Int.reduceEq, Int.reduceNe, Int.reduceLT, Int.reduceLE, Int.reduceToNat, Int.reduceAdd, Int.reduceSub, Int.reduceMul, Int.cast_ofNat_Int]
                · have q3 : ¬ ((q.toNat : Int) = 118) := by
                    intro e
                    have : q.toNat = (118 : UInt8).toNat := by have : (118 : UInt8).toNat = 118 := rfl; omega
                    exact c3 (UInt8.toNat_inj.1 this)
                  have hfr : fieldR oc q.toNat w = (numberS w).map fun n => withS oc q.toNat n := by unfold fieldR; rw [if_neg q1, if_neg q2, if_neg q3]
                  simp (maxSteps := 2000000) -dsimp (disch := omega) only [h2, h4, h5, h6, h7, m1', m2', m4, m5, hds, hlt', hwp, hgp, hp0, Int.toNat_natCast, pl19_16, q1, q2, q3, decide_true, decide_false, eParse34_44, ↓Tryz.ntmps19, ↓res19, ↓xpre0, xpost0, xpost1, xpost2, xpost3, facts0, facts1, calls0, St.wf.none hw, Nat.add_assoc, ↓reduceIte, Nat.reduceEqDiff, Nat.reduceMul, Nat.reduceAdd, Nat.reduceSub, Nat.reduceLeDiff, Nat.reduceLT, Int.reduceBEq, Int.reduceBNe, Int.reduceEq, Int.reduceNe, Int.reduceLT, Int.reduceLE, Int.reduceToNat, Int.reduceAdd, Int.reduceSub, Int.reduceMul, Int.cast_ofNat_Int]
                  refine ⟨oc, q.toNat, x, rfl, fun n2 hn2 => ?_⟩
                  simp only [more_n] at hn2
                  cases hns : numberS w with
                  | none =>
                    rw [hns] at hfr
                    simp (maxSteps := 2000000) -dsimp (disch := omega) only [h2, h4, h5, h6, h7, m1', m2', m4, m5, hds, hlt', hwp, hgp, hp0, Int.toNat_natCast, pl19_16, OpS.cells, hns, Option.isSome_none, decide_true, decide_false, ↓Tryz.ntmps19, ↓res19, ↓xpre0, xpost0, xpost1, xpost2, xpost3, facts0, facts1, calls0, St.wf.none hw, Nat.add_assoc, ↓reduceIte, Nat.reduceEqDiff, Nat.reduceMul, Nat.reduceAdd, Nat.reduceSub, Nat.reduceLeDiff, Nat.reduceLT, Int.reduceBEq, Int.reduceBNe, Int.reduceEq, Int.reduceNe, Int.reduceLT, Int.reduceLE, Int.reduceToNat, Int.reduceAdd, Int.reduceSub, Int.reduceMul, Int.cast_ofNat_Int]
                    refine bad ?_ hfr
                    (repeat (first | with_reducible exact Ext.refl _ | with_reducible assumption | refine Ext.lay ?_ _ _ _ (by omega) (by first | omega | (simp only [lay_n, upd_n, more_n, froz_n]; omega)) | refine Ext.upd ?_ _ _ (by omega) | refine Ext.more ?_ _ (by first | omega | (simp only [lay_n, upd_n, more_n, froz_n]; omega)) | refine Ext.frz ?_ hw _ _ _ (by omega) (by first | omega | (simp only [lay_n, upd_n, more_n, froz_n]; omega))))
                  | some v =>
                    obtain rfl := hx.2 v hns
                    rw [hns] at hfr
                    have hfr : fieldR oc q.toNat w = some (withS oc q.toNat x) := hfr
                    simp (maxSteps := 2000000) -dsimp (disch := omega) only [h2, h4, h5, h6, h7, m1', m2', m4, m5, hds, hlt', hwp, hgp, hp0, Int.toNat_natCast, pl19_16, OpS.cells, hns, Option.isSome_some, decide_true, decide_false, ↓Tryz.ntmps19, ↓res19, ↓xpre0, xpost0, xpost1, xpost2, xpost3, facts0, facts1, calls0, St.wf.none hw, Nat.add_assoc, ↓reduceIte, Nat.reduceEqDiff, Nat.reduceMul, Nat.reduceAdd, Nat.reduceSub, Nat.reduceLeDiff, Nat.reduceLT, Int.reduceBEq, Int.reduceBNe, Int.reduceEq, Int.reduceNe, Int.reduceLT, Int.reduceLE, Int.reduceToNat, Int.reduceAdd, Int.reduceSub, Int.reduceMul, Int.cast_ofNat_Int]
                    rw [hfr] at hf
                    refine ⟨(opUses (ofS n)).length - (p + 1), by omega, p + 1, withS oc q.toNat x, ob, by omega, rfl, ?_, hb3, ?_, rfl, rfl, ?_⟩
                    · (repeat (first | with_reducible exact Ext.refl _ | with_reducible assumption | refine Ext.lay ?_ _ _ _ (by omega) (by first | omega | (simp only [lay_n, upd_n, more_n, froz_n]; omega)) | refine Ext.upd ?_ _ _ (by omega) | refine Ext.more ?_ _ (by first | omega | (simp only [lay_n, upd_n, more_n, froz_n]; omega)) | refine Ext.frz ?_ hw _ _ _ (by omega) (by first | omega | (simp only [lay_n, upd_n, more_n, froz_n]; omega))))
                    · omega
                    · refine ⟨rfl, ?_, hf⟩
                      simp (maxSteps := 2000000) -dsimp (disch := omega) only [OpS.cells, ↓xpre0, xpost0, xpost1, xpost2, xpost3, facts0, facts1, calls0, St.wf.none hw, Nat.add_assoc, ↓reduceIte, Nat.reduceEqDiff, Nat.reduceMul, Nat.reduceAdd, Nat.reduceSub, Nat.reduceLeDiff, Nat.reduceLT, Int.reduceBEq, Int.reduceBNe, Int.reduceEq, Int.reduceNe, Int.reduceLT, Int.reduceLE, Int.reduceToNat, Int.reduceAdd, Int.reduceSub, Int.reduceMul, Int.cast_ofNat_Int]
          · have hf2 : fieldsR (opUses (ofS n)) ws (.zero (ofS n)) = some oc := by
              rw [hf, List.drop_of_length_le (by omega)]; rfl
            have hge : ¬ ((p : Int) < ((opUses (ofS n)).length : Int)) := by omega
            simp (maxSteps := 2000000) -dsimp (disch := omega) only [h2, h4, h5, h6, h7, m1, m2, m4, m5, hds, OpS.cells, OpS.zero, hge, decide_false, ↓Tryz.ntmps19, ↓res19, ↓xpre0, xpost0, xpost1, xpost2, xpost3, facts0, facts1, calls0, St.wf.none hw, Nat.add_assoc, ↓reduceIte, Nat.reduceEqDiff, Nat.reduceMul, Nat.reduceAdd, Nat.reduceSub, Nat.reduceLeDiff, Nat.reduceLT, Int.reduceBEq, Int.reduceBNe, Int.reduceEq, Int.reduceNe, Int.reduceLT, Int.reduceLE, Int.reduceToNat, Int.reduceAdd, Int.reduceSub, Int.reduceMul, Int.cast_ofNat_Int]
            refine fin (o := oc) hw ?_ (by unfold parseW; rw [if_neg e0, if_neg e1, if_neg e2, hf2])
            (repeat (first | with_reducible exact Ext.refl _ | with_reducible assumption | refine Ext.lay ?_ _ _ _ (by omega) (by first | omega | (simp only [lay_n, upd_n, more_n, froz_n]; omega)) | refine Ext.upd ?_ _ _ (by omega) | refine Ext.more ?_ _ (by first | omega | (simp only [lay_n, upd_n, more_n, froz_n]; omega)) | refine Ext.frz ?_ hw _ _ _ (by omega) (by first | omega | (simp only [lay_n, upd_n, more_n, froz_n]; omega))))
end Go.Proofs.TX
