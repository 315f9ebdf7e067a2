/- The text layer's functions: Parse. -/
import Derived.Test.YtfndoonmgilklaaGreatDoorXT16
import Derived.Test.YtfndoonmgilklaaGreatDoorXTLaw3
set_option linter.unusedSimpArgs false
set_option linter.unusedVariables false
set_option maxRecDepth 100000
set_option maxHeartbeats 4000000
namespace Go.Proofs.TX
open Go
def splitSp2 : Spec where
  run args s K := ∃ (l : Bs) (c : UInt8), args = #[str l, .string ⟨#[c]⟩] ∧ l.length < 4294967281 ∧
    K.K (.slice (some ⟨s.n, 0, none⟩) (splitS c l).length (splitS c l).length) (s.froz s.n (.cells ((splitS c l).map str).toArray 9) (s.n + 1))
  mono args s K K' h := fun ⟨a, sep, h1, h2, h4⟩ => ⟨a, sep, h1, h2, h _ _ h4⟩
theorem split_c2 (B : World) (hB : Good B) : ∀ args s K, splitSp2.run args s K → CallOK Tryz.prog B 17 args s K.K := by
  rintro args s K ⟨l, c, rfl, h1, h⟩
  refine split_c B hB _ _ ⟨K.K, .mk⟩ ⟨⟨l.toArray⟩, ⟨#[c]⟩, rfl, by simpa [bs_size] using h1, Nat.le_refl _, ?_⟩
  have hm : (Lib.splitB ⟨#[c]⟩ 0 (Lib.countB ⟨l.toArray⟩ ⟨#[c]⟩) ⟨l.toArray⟩).map Value.string = (splitS c l).map str := by
    rw [← splitB_eq c l, List.map_map]; rfl
  have hl : Lib.countB ⟨l.toArray⟩ ⟨#[c]⟩ + 1 = (splitS c l).length := by
    have := Lib.splitB_all ⟨#[c]⟩ (Nat.le_refl _) 0 _ ⟨l.toArray⟩ rfl
    rw [← this, ← splitB_eq c l, List.length_map]
  rw [hm, hl]
  exact h
theorem readP_field (o : OpS) (c : Int) (w : Bs) : fieldR o c w = if (readP o c w).1 = true then some (readP o c w).2 else none := by
  unfold fieldR readP
  by_cases h1 : c = 112
  · rw [if_pos h1, if_pos h1]
    cases hn : numberS w with
    | none => simp
    | some n =>
      have e := atoiN_of hn
      simp only [e, Option.isSome_some, true_and, Option.bind_some]
      by_cases hb : 0 ≤ n ∧ n ≤ 255
      · rw [if_pos hb, if_pos hb]; rfl
      · rw [if_neg hb, if_neg hb]; rfl
  · rw [if_neg h1, if_neg h1]
    by_cases h2 : c = 119
    · rw [if_pos h2, if_pos h2]
      cases hr : readW w with
      | none => rfl
      | some n => rfl
    · rw [if_neg h2, if_neg h2]
      by_cases h3 : c = 118
      · rw [if_pos h3, if_pos h3]
        unfold valR valS
        by_cases hw : w = [110, 105, 108]
        · rw [if_pos hw, if_pos hw]; subst hw; rfl
        · rw [if_neg hw, if_neg hw]
          cases hp : Lib.hasPrefix w [64] with
          | true =>
            obtain ⟨t, rfl⟩ : ∃ t, w = 64 :: t := by
              cases w with
              | nil => simp [Lib.hasPrefix] at hp
              | cons b t => rw [hasP] at hp; simp at hp; exact ⟨t, by rw [hp]⟩
            simp only [if_true, trimP]
            cases hn : numberS t with
            | none =>
              have : valText (-1) (atoiN t) = [63] := by unfold valText mayV; simp
              simp [this]
            | some n =>
              have e := atoiN_of hn
              simp only [e, Option.isSome_some, if_true, Option.bind_some]
              cases hm : mayV 2 n with
              | true =>
                have : valText 2 n = 64 :: t := by unfold valText; rw [if_pos hm, if_neg (by omega), if_neg (by omega), (num_show hn).1]
                simp [this]
              | false =>
                have : valText 2 n = [63] := by unfold valText; rw [hm]; simp
                simp [this]
          | false =>
            simp only [Bool.false_eq_true, if_false]
            cases hn : numberS w with
            | none =>
              have : valText (-1) (atoiN w) = [63] := by unfold valText mayV; simp
              simp only [Option.isSome_none, Bool.false_eq_true, if_false, this, Option.bind_none, Option.map_none]
              by_cases hq : w = [63]
              · simp [hq]
              · simp [hq, Ne.symm hq]
            | some n =>
              have e := atoiN_of hn
              simp only [e, Option.isSome_some, if_true, Option.bind_some]
              cases hm : mayV 1 n with
              | true =>
                have h1 : valText 1 n = w := by unfold valText; rw [if_pos hm, if_neg (by omega), if_pos rfl, (num_show hn).1]
                have h2 : w ≠ [63] := by rw [← h1]; exact valText_bad hm
                simp [h1, h2]
              | false =>
                have : valText 1 n = [63] := by unfold valText; rw [hm]; simp
                simp only [this, Bool.false_eq_true, if_false, Option.map_none]
                by_cases hq : w = [63]
                · simp [hq]
                · simp [hq, Ne.symm hq]
      · rw [if_neg h3, if_neg h3]
        cases hn : numberS w with
        | none => simp
        | some n => simp [atoiN_of hn]
def readSp : Spec where
  run args s K := ∃ (o : OpS) (c : Int) (l : Bs) (b : Nat), args = #[.pointer (some ⟨b, 0, none⟩), .int .i32 c, str l] ∧ l.length ≤ 281474976710656 ∧ s.h b = some (.cells o.cells.toArray 35) ∧
    ∀ n, s.n ≤ n → K.K (.bool (readP o c l).1) ((s.upd b (.cells (readP o c l).2.cells.toArray 35)).more n)
  mono args s K K' h := fun ⟨o, c, l, b, h1, h2, h3, h4⟩ => ⟨o, c, l, b, h1, h2, h3, fun n hn => h _ _ (h4 n hn)⟩
theorem read22_c2 (B : World) (hB : Good B) : ∀ args s K, readSp.run args s K → CallOK Tryz.prog B 22 args s K.K := by
  rintro args s K ⟨o, c, l, b, rfl, h1, h2, h3⟩
  exact read22_c B hB o c l b s _ h1 h2 h3
noncomputable def eParse (B : World) (hB : Good B) : Env Tryz.prog := ((((Env.base Tryz.prog B).ext 17 splitSp2 (split_c2 B hB)).ext 20 (.fn opOfF) (opOf_c B)).ext 21 (.fn usesF) (uses_c B)).ext 22 readSp (read22_c2 B hB)
theorem eParse_17 (B : World) (hB : Good B) (args : Array Value) (s : St) (K : Kp (Value → St → Prop)) : XCallOK Tryz.prog (eParse B hB) 17 args s K = splitSp2.run args s K := rfl
theorem eParse_22 (B : World) (hB : Good B) (args : Array Value) (s : St) (K : Kp (Value → St → Prop)) : XCallOK Tryz.prog (eParse B hB) 22 args s K = readSp.run args s K := rfl
theorem eParse_20 (B : World) (hB : Good B) (l : Bs) (s : St) (K : Kp (Value → St → Prop)) : XCallOK Tryz.prog (eParse B hB) 20 #[str l] s K = ∀ k, K.K (.int .i64 (ofS l)) (s.more (s.n + k)) := by
  show (Spec.fn opOfF).run #[str l] s K = _
  exact Spec.fn_run (by simp [opOfF]) s K
theorem eParse_21 (B : World) (hB : Good B) (d : Int) (s : St) (K : Kp (Value → St → Prop)) : XCallOK Tryz.prog (eParse B hB) 21 #[.int .i64 d] s K = ∀ k, K.K (str (opUses d)) (s.more (s.n + k)) := rfl
def parseV (l : Bs) : Value := .tuple #[(parseS l).1.val, .int .i64 (parseS l).2]
theorem splitS_length (c : UInt8) : ∀ l : Bs, (splitS c l).length ≤ l.length + 1
  | [] => by simp [splitS]
  | b :: l => by
    have := splitS_length c l
    rw [splitS_cons]
    split
    · simp only [List.length_cons]; omega
    · cases h : splitS c l with
      | nil => simp [glue]
      | cons x xs => rw [h] at this; simp only [glue, List.length_cons] at this ⊢; omega
theorem splitS_piece (c : UInt8) : ∀ (l x : Bs), x ∈ splitS c l → x.length ≤ l.length
  | [], x, h => by simp [splitS] at h; subst h; simp
  | b :: l, x, h => by
    have ih := splitS_piece c l
    rw [splitS_cons] at h
    split at h
    · rcases List.mem_cons.1 h with rfl | h
      · simp
      · have := ih x h; simp only [List.length_cons]; omega
    · cases hs : splitS c l with
      | nil => exact absurd hs (splitS_ne _ _)
      | cons y ys =>
        rw [hs] at h ih
        simp only [glue] at h
        rcases List.mem_cons.1 h with rfl | h
        · have := ih y (by simp); simp only [List.length_cons, List.length_append, List.length_nil]; omega
        · have := ih x (by simp [h]); simp only [List.length_cons]; omega
theorem parse_c' (B : World) (hB : Good B) (l : Bs) (hl : l.length ≤ 100000) (s : St) (R : Value → St → Prop) (h : ∀ n, s.n ≤ n → R (parseV l) (s.more n)) : CallOK Tryz.prog B 11 #[str l] s R := by
  refine call_of (eParse B hB) (fun _ => none) mixed Tryz.func11 rfl (by simp [Tryz.ntmps11]) (by kernel_rfl) fun hw => ?_
  simp (maxSteps := 2000000) -dsimp (disch := omega) only [eParse_17, ↓Tryz.ntmps11, ↓res11, ↓xpre0, xpost0, xpost1, xpost2, xpost3, facts0, facts1, calls0, St.wf.none hw, Nat.add_assoc, ↓reduceIte, Nat.reduceEqDiff, Nat.reduceMul, Nat.reduceAdd, Nat.reduceSub, Nat.reduceLeDiff, Nat.reduceLT, Int.reduceBEq, Int.reduceBNe, Int.reduceEq, Int.reduceNe, Int.reduceLT, Int.reduceLE, Int.reduceToNat, Int.reduceAdd, Int.reduceSub, Int.reduceMul, Int.cast_ofNat_Int]
  refine ⟨l, 32, rfl, by omega, ?_⟩
  have hsl := splitS_length 32 l
  have hpc := splitS_piece 32 l
  obtain ⟨n, ws, hws⟩ : ∃ n ws, splitS 32 l = n :: ws := by
    cases hs : splitS 32 l with
    | nil => exact absurd hs (splitS_ne _ _)
    | cons n ws => exact ⟨n, ws, rfl⟩
  have hP : parseS l = parseW n ws := by unfold parseS; rw [hws]
  rw [hws] at hsl hpc ⊢
  simp only [List.length_cons] at hsl
  have hu4 := opUses_length (ofS n)
  have w1 : IntKind.i64.wrap (((opUses (ofS n)).length : Int) + 1) = ((opUses (ofS n)).length : Int) + 1 := wrap_i64 (by omega) (by omega)
  simp (maxSteps := 2000000) -dsimp (disch := omega) only [eParse_20, eParse_21, w1, ↓Tryz.ntmps11, ↓res11, ↓xpre0, xpost0, xpost1, xpost2, xpost3, facts0, facts1, calls0, St.wf.none hw, Nat.add_assoc, ↓reduceIte, Nat.reduceEqDiff, Nat.reduceMul, Nat.reduceAdd, Nat.reduceSub, Nat.reduceLeDiff, Nat.reduceLT, Int.reduceBEq, Int.reduceBNe, Int.reduceEq, Int.reduceNe, Int.reduceLT, Int.reduceLE, Int.reduceToNat, Int.reduceAdd, Int.reduceSub, Int.reduceMul, Int.cast_ofNat_Int]
  have hrow : ∀ (i : Nat) (w : Bs), ws[i]? = some w → w.length ≤ l.length := fun i w hw => hpc w (by simp [List.mem_of_getElem? hw])
  have fin : ∀ {t : St} {o : OpS} {e : Int}, s.wf → Ext s t → parseW n ws = (o, e) → Drop R (.tuple #[.agg o.cells.toArray, .int .i64 e]) t := by
    intro t o e hw he hp
    refine drop_ext hw he fun n hn => ?_
    have := h n hn
    rw [parseV, hP, hp] at this; exact this
  refine ⟨by omega, fun _ k1 k2 => ⟨fun e0 => ?_, fun e0 => ⟨fun e1 => ?_, fun e1 => ⟨fun e2 => ?_, fun e2 => ?_⟩⟩⟩⟩
  · refine fin (o := .zero 0) hw ?_ (by unfold parseW; rw [if_pos e0])
    (repeat (first | with_reducible exact Ext.refl _ | with_reducible assumption | refine Ext.lay ?_ _ _ _ (by omega) (by first | omega | (simp only [lay_n, upd_n, more_n, froz_n]; omega)) | refine Ext.upd ?_ _ _ (by omega) | refine Ext.more ?_ _ (by first | omega | (simp only [lay_n, upd_n, more_n, froz_n]; omega)) | refine Ext.frz ?_ hw _ _ _ (by omega) (by first | omega | (simp only [lay_n, upd_n, more_n, froz_n]; omega))))
  · refine fin (o := .zero 0) hw ?_ (by unfold parseW; rw [if_neg e0, if_pos (by omega)])
    (repeat (first | with_reducible exact Ext.refl _ | with_reducible assumption | refine Ext.lay ?_ _ _ _ (by omega) (by first | omega | (simp only [lay_n, upd_n, more_n, froz_n]; omega)) | refine Ext.upd ?_ _ _ (by omega) | refine Ext.more ?_ _ (by first | omega | (simp only [lay_n, upd_n, more_n, froz_n]; omega)) | refine Ext.frz ?_ hw _ _ _ (by omega) (by first | omega | (simp only [lay_n, upd_n, more_n, froz_n]; omega))))
  · refine fin (o := .zero 0) hw ?_ (by unfold parseW; rw [if_neg e0, if_neg (by omega), if_pos (by omega)])
    (repeat (first | with_reducible exact Ext.refl _ | with_reducible assumption | refine Ext.lay ?_ _ _ _ (by omega) (by first | omega | (simp only [lay_n, upd_n, more_n, froz_n]; omega)) | refine Ext.upd ?_ _ _ (by omega) | refine Ext.more ?_ _ (by first | omega | (simp only [lay_n, upd_n, more_n, froz_n]; omega)) | refine Ext.frz ?_ hw _ _ _ (by omega) (by first | omega | (simp only [lay_n, upd_n, more_n, froz_n]; omega))))
  · have hlen : ws.length = (opUses (ofS n)).length := by omega
    refine loop_wf (pl := fun _ => none) mixed (by kernel_rfl) (fun m fr t => ∃ p oc ob it, p ≤ (opUses (ofS n)).length ∧ m = (opUses (ofS n)).length - p ∧ fr.ds = [] ∧ Ext s t ∧ s.n + 1 < ob ∧ ob < it ∧ it < t.n ∧
        fr.ρ 2 = .pointer (some ⟨s.n, 0, none⟩) ∧ fr.ρ 4 = .slice (some ⟨s.n + 1, 0, none⟩) (ws.length + 1) (ws.length + 1) ∧ fr.ρ 5 = .pointer (some ⟨ob, 0, none⟩) ∧ fr.ρ 41 = .pointer (some ⟨it, 0, none⟩) ∧
        t.h s.n = some (.cells (OpS.zero 0).cells.toArray 35) ∧ t.h ob = some (.cells oc.cells.toArray 35) ∧ t.h it = some (.stringIter ⟨(opUses (ofS n)).toArray⟩ p) ∧
        t.h (s.n + 1) = none ∧ t.σ (s.n + 1) = some (.cells (str n :: ws.map str).toArray 9) ∧
        fieldsR (opUses (ofS n)) ws (.zero (ofS n)) = fieldsR ((opUses (ofS n)).drop p) (ws.drop p) oc) (opUses (ofS n)).length ?_ ?_
    · refine ⟨0, .zero (ofS n), _, _, Nat.zero_le _, rfl, rfl, ?_, ?_, ?_, ?_, rfl, rfl, rfl, rfl, ?_, ?_, ?_, ?_, ?_, rfl⟩
      · (repeat (first | with_reducible exact Ext.refl _ | with_reducible assumption | refine Ext.lay ?_ _ _ _ (by omega) (by first | omega | (simp only [lay_n, upd_n, more_n, froz_n]; omega)) | refine Ext.upd ?_ _ _ (by omega) | refine Ext.more ?_ _ (by first | omega | (simp only [lay_n, upd_n, more_n, froz_n]; omega)) | refine Ext.frz ?_ hw _ _ _ (by omega) (by first | omega | (simp only [lay_n, upd_n, more_n, froz_n]; omega))))
      · omega
      · omega
      · simp (maxSteps := 2000000) -dsimp (disch := omega) only [↓xpre0, xpost0, xpost1, xpost2, xpost3, facts0, facts1, calls0, St.wf.none hw, Nat.add_assoc, ↓reduceIte, Nat.reduceEqDiff, Nat.reduceMul, Nat.reduceAdd, Nat.reduceSub, Nat.reduceLeDiff, Nat.reduceLT, Int.reduceBEq, Int.reduceBNe, Int.reduceEq, Int.reduceNe, Int.reduceLT, Int.reduceLE, Int.reduceToNat, Int.reduceAdd, Int.reduceSub, Int.reduceMul, Int.cast_ofNat_Int]
        try omega
      · simp (maxSteps := 2000000) -dsimp (disch := omega) only [OpS.cells, OpS.zero, ↓xpre0, xpost0, xpost1, xpost2, xpost3, facts0, facts1, calls0, St.wf.none hw, Nat.add_assoc, ↓reduceIte, Nat.reduceEqDiff, Nat.reduceMul, Nat.reduceAdd, Nat.reduceSub, Nat.reduceLeDiff, Nat.reduceLT, Int.reduceBEq, Int.reduceBNe, Int.reduceEq, Int.reduceNe, Int.reduceLT, Int.reduceLE, Int.reduceToNat, Int.reduceAdd, Int.reduceSub, Int.reduceMul, Int.cast_ofNat_Int]
      · simp (maxSteps := 2000000) -dsimp (disch := omega) only [OpS.cells, OpS.zero, ↓xpre0, xpost0, xpost1, xpost2, xpost3, facts0, facts1, calls0, St.wf.none hw, Nat.add_assoc, ↓reduceIte, Nat.reduceEqDiff, Nat.reduceMul, Nat.reduceAdd, Nat.reduceSub, Nat.reduceLeDiff, Nat.reduceLT, Int.reduceBEq, Int.reduceBNe, Int.reduceEq, Int.reduceNe, Int.reduceLT, Int.reduceLE, Int.reduceToNat, Int.reduceAdd, Int.reduceSub, Int.reduceMul, Int.cast_ofNat_Int]
      · simp (maxSteps := 2000000) -dsimp (disch := omega) only [↓xpre0, xpost0, xpost1, xpost2, xpost3, facts0, facts1, calls0, St.wf.none hw, Nat.add_assoc, ↓reduceIte, Nat.reduceEqDiff, Nat.reduceMul, Nat.reduceAdd, Nat.reduceSub, Nat.reduceLeDiff, Nat.reduceLT, Int.reduceBEq, Int.reduceBNe, Int.reduceEq, Int.reduceNe, Int.reduceLT, Int.reduceLE, Int.reduceToNat, Int.reduceAdd, Int.reduceSub, Int.reduceMul, Int.cast_ofNat_Int]
      · simp (maxSteps := 2000000) -dsimp (disch := omega) only [↓xpre0, xpost0, xpost1, xpost2, xpost3, facts0, facts1, calls0, St.wf.none hw, Nat.add_assoc, ↓reduceIte, Nat.reduceEqDiff, Nat.reduceMul, Nat.reduceAdd, Nat.reduceSub, Nat.reduceLeDiff, Nat.reduceLT, Int.reduceBEq, Int.reduceBNe, Int.reduceEq, Int.reduceNe, Int.reduceLT, Int.reduceLE, Int.reduceToNat, Int.reduceAdd, Int.reduceSub, Int.reduceMul, Int.cast_ofNat_Int]
        try exact hw.none (by omega)
      · simp (maxSteps := 2000000) -dsimp (disch := omega) only [↓xpre0, xpost0, xpost1, xpost2, xpost3, facts0, facts1, calls0, St.wf.none hw, Nat.add_assoc, ↓reduceIte, Nat.reduceEqDiff, Nat.reduceMul, Nat.reduceAdd, Nat.reduceSub, Nat.reduceLeDiff, Nat.reduceLT, Int.reduceBEq, Int.reduceBNe, Int.reduceEq, Int.reduceNe, Int.reduceLT, Int.reduceLE, Int.reduceToNat, Int.reduceAdd, Int.reduceSub, Int.reduceMul, Int.cast_ofNat_Int]
    · rintro m fr t ht ⟨p, oc, ob, it, hp1, rfl, hds, hext, hb1, hb2, hb3, h2, h4, h5, h41, m1, m2, m3, m4, m5, hf⟩
      have hln : ∀ l : Bs, (ByteArray.mk l.toArray).size = l.length := fun l => by simp [ByteArray.size]
      by_cases hlt : p < (opUses (ofS n)).length
      · have hdec := decode_ascii (opUses (ofS n)) p hlt (opUses_ascii (ofS n) _ (List.getElem_mem hlt))
        have hlt2 : p < ws.length := by omega
        have hwp : IntKind.i64.wrap ((p : Int) + 1) = ((p + 1 : Nat) : Int) := by rw [wrap_i64 (by omega) (by omega)]; omega
        have hw9 : (ws.map str)[p]? = some (str ws[p]) := by simp [hlt2]
        have hwl := hrow p ws[p] (by simp [hlt2])
        rw [List.drop_eq_getElem_cons hlt, List.drop_eq_getElem_cons hlt2, fieldsR, readP_field] at hf
        generalize (opUses (ofS n))[p] = q at hdec hf
        generalize ws[p] = w at hw9 hwl hf
        simp (maxSteps := 2000000) -dsimp (disch := omega) only [h2, h4, h5, h41, m1, m2, m3, m4, m5, hds, OpS.cells, hln, hdec, if_pos hlt, hwp, Int.toNat_natCast, Nat.mul_one, Nat.zero_add, hw9, eParse_22, ↓Tryz.ntmps11, ↓res11, ↓xpre0, xpost0, xpost1, xpost2, xpost3, facts0, facts1, calls0, St.wf.none hw, Nat.add_assoc, ↓reduceIte, Nat.reduceEqDiff, Nat.reduceMul, Nat.reduceAdd, Nat.reduceSub, Nat.reduceLeDiff, Nat.reduceLT, Int.reduceBEq, Int.reduceBNe, Int.reduceEq, Int.reduceNe, Int.reduceLT, Int.reduceLE, Int.reduceToNat, Int.reduceAdd, Int.reduceSub, Int.reduceMul, Int.cast_ofNat_Int]
        refine ⟨by omega, fun _ => ⟨oc, q.toNat, w, ob, rfl, by omega, ?_, ?_⟩⟩
        · simp (maxSteps := 2000000) -dsimp (disch := omega) only [m2, ↓xpre0, xpost0, xpost1, xpost2, xpost3, facts0, facts1, calls0, St.wf.none hw, Nat.add_assoc, ↓reduceIte, Nat.reduceEqDiff, Nat.reduceMul, Nat.reduceAdd, Nat.reduceSub, Nat.reduceLeDiff, Nat.reduceLT, Int.reduceBEq, Int.reduceBNe, Int.reduceEq, Int.reduceNe, Int.reduceLT, Int.reduceLE, Int.reduceToNat, Int.reduceAdd, Int.reduceSub, Int.reduceMul, Int.cast_ofNat_Int]
        · intro n' hn'
          simp only [upd_n] at hn'
          generalize hrp : readP oc q.toNat w = rp at hf
          obtain ⟨ok, o'⟩ := rp
          cases ok with
          | false =>
            simp (maxSteps := 2000000) -dsimp (disch := omega) only [h2, m1, hds, OpS.cells, OpS.zero, ↓Tryz.ntmps11, ↓res11, ↓xpre0, xpost0, xpost1, xpost2, xpost3, facts0, facts1, calls0, St.wf.none hw, Nat.add_assoc, ↓reduceIte, Nat.reduceEqDiff, Nat.reduceMul, Nat.reduceAdd, Nat.reduceSub, Nat.reduceLeDiff, Nat.reduceLT, Int.reduceBEq, Int.reduceBNe, Int.reduceEq, Int.reduceNe, Int.reduceLT, Int.reduceLE, Int.reduceToNat, Int.reduceAdd, Int.reduceSub, Int.reduceMul, Int.cast_ofNat_Int]
            simp only [Bool.false_eq_true, if_false, Option.bind_none] at hf
            refine fin (o := .zero 0) hw ?_ (by unfold parseW; rw [if_neg e0, if_neg (by omega), if_neg (by omega), hf])
            (repeat (first | with_reducible exact Ext.refl _ | with_reducible assumption | refine Ext.lay ?_ _ _ _ (by omega) (by first | omega | (simp only [lay_n, upd_n, more_n, froz_n]; omega)) | refine Ext.upd ?_ _ _ (by omega) | refine Ext.more ?_ _ (by first | omega | (simp only [lay_n, upd_n, more_n, froz_n]; omega)) | refine Ext.frz ?_ hw _ _ _ (by omega) (by first | omega | (simp only [lay_n, upd_n, more_n, froz_n]; omega))))
          | true =>
            simp (maxSteps := 2000000) -dsimp (disch := omega) only [h2, h4, h5, h41, m1, m4, m5, hds, ↓Tryz.ntmps11, ↓res11, ↓xpre0, xpost0, xpost1, xpost2, xpost3, facts0, facts1, calls0, St.wf.none hw, Nat.add_assoc, ↓reduceIte, Nat.reduceEqDiff, Nat.reduceMul, Nat.reduceAdd, Nat.reduceSub, Nat.reduceLeDiff, Nat.reduceLT, Int.reduceBEq, Int.reduceBNe, Int.reduceEq, Int.reduceNe, Int.reduceLT, Int.reduceLE, Int.reduceToNat, Int.reduceAdd, Int.reduceSub, Int.reduceMul, Int.cast_ofNat_Int]
            simp only [if_true, Option.bind_some] at hf
            refine ⟨(opUses (ofS n)).length - (p + 1), by omega, p + 1, o', ob, it, by omega, rfl, ?_, hb1, hb2, ?_, rfl, rfl, ?_, ?_, hf⟩
            · (repeat (first | with_reducible exact Ext.refl _ | with_reducible assumption | refine Ext.lay ?_ _ _ _ (by omega) (by first | omega | (simp only [lay_n, upd_n, more_n, froz_n]; omega)) | refine Ext.upd ?_ _ _ (by omega) | refine Ext.more ?_ _ (by first | omega | (simp only [lay_n, upd_n, more_n, froz_n]; omega)) | refine Ext.frz ?_ hw _ _ _ (by omega) (by first | omega | (simp only [lay_n, upd_n, more_n, froz_n]; omega))))
            · omega
            · simp (maxSteps := 2000000) -dsimp (disch := omega) only [↓xpre0, xpost0, xpost1, xpost2, xpost3, facts0, facts1, calls0, St.wf.none hw, Nat.add_assoc, ↓reduceIte, Nat.reduceEqDiff, Nat.reduceMul, Nat.reduceAdd, Nat.reduceSub, Nat.reduceLeDiff, Nat.reduceLT, Int.reduceBEq, Int.reduceBNe, Int.reduceEq, Int.reduceNe, Int.reduceLT, Int.reduceLE, Int.reduceToNat, Int.reduceAdd, Int.reduceSub, Int.reduceMul, Int.cast_ofNat_Int]
            · simp (maxSteps := 2000000) -dsimp (disch := omega) only [↓xpre0, xpost0, xpost1, xpost2, xpost3, facts0, facts1, calls0, St.wf.none hw, Nat.add_assoc, ↓reduceIte, Nat.reduceEqDiff, Nat.reduceMul, Nat.reduceAdd, Nat.reduceSub, Nat.reduceLeDiff, Nat.reduceLT, Int.reduceBEq, Int.reduceBNe, Int.reduceEq, Int.reduceNe, Int.reduceLT, Int.reduceLE, Int.reduceToNat, Int.reduceAdd, Int.reduceSub, Int.reduceMul, Int.cast_ofNat_Int]
      · have hf2 : fieldsR (opUses (ofS n)) ws (.zero (ofS n)) = some oc := by
          rw [hf, List.drop_of_length_le (by omega)]; rfl
        simp (maxSteps := 2000000) -dsimp (disch := omega) only [h2, h4, h5, h41, m1, m2, m3, m4, m5, hds, OpS.cells, hln, if_neg hlt, ↓Tryz.ntmps11, ↓res11, ↓xpre0, xpost0, xpost1, xpost2, xpost3, facts0, facts1, calls0, St.wf.none hw, Nat.add_assoc, ↓reduceIte, Nat.reduceEqDiff, Nat.reduceMul, Nat.reduceAdd, Nat.reduceSub, Nat.reduceLeDiff, Nat.reduceLT, Int.reduceBEq, Int.reduceBNe, Int.reduceEq, Int.reduceNe, Int.reduceLT, Int.reduceLE, Int.reduceToNat, Int.reduceAdd, Int.reduceSub, Int.reduceMul, Int.cast_ofNat_Int]
        refine fin (o := oc) hw ?_ (by unfold parseW; rw [if_neg e0, if_neg (by omega), if_neg (by omega), hf2])
        (repeat (first | with_reducible exact Ext.refl _ | with_reducible assumption | refine Ext.lay ?_ _ _ _ (by omega) (by first | omega | (simp only [lay_n, upd_n, more_n, froz_n]; omega)) | refine Ext.upd ?_ _ _ (by omega) | refine Ext.more ?_ _ (by first | omega | (simp only [lay_n, upd_n, more_n, froz_n]; omega)) | refine Ext.frz ?_ hw _ _ _ (by omega) (by first | omega | (simp only [lay_n, upd_n, more_n, froz_n]; omega))))
end Go.Proofs.TX
