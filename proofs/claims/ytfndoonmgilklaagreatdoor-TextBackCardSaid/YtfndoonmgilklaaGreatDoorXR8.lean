/- The document's layer 34: Line. -/
import Derived.Test.YtfndoonmgilklaaGreatDoorXR1
import Derived.Test.YtfndoonmgilklaaGreatDoorXR7
set_option linter.unusedSimpArgs false
set_option linter.unusedVariables false
set_option maxRecDepth 100000
set_option maxHeartbeats 4000000
namespace Go.Proofs.TX
open Go
theorem tailS_append (o : OpS) : ∀ u v : Bs, tailS o (u ++ v) = tailS o u ++ tailS o v
  | [], v => rfl
  | c :: u, v => by simp only [List.cons_append, tailS, tailS_append o u v, List.append_assoc]
theorem tailS_snoc (o : OpS) (u : Bs) (p : Nat) (hp : p < u.length) : tailS o (u.take (p + 1)) = tailS o (u.take p) ++ 32 :: showS o u[p].toNat := by
  rw [List.take_succ_eq_append_getElem hp, tailS_append]; simp [tailS]
theorem plain31_c2 (B : World) : ∀ args s K, plainSp.run args s K → CallOK Tryz.prog B 32 args s K.K := by
  rintro args s K ⟨o, rfl, h⟩
  exact plain31_c' B o s _ h
def hex36F : List Value → Option Value
  | [.int .u64 w] => if 0 ≤ w ∧ w < 18446744073709551616 then some (str (hexS w.toNat)) else none
  | _ => none
theorem hex36_c (B : World) : ∀ args s K, (Spec.fn hex36F).run args s K → CallOK Tryz.prog B 36 args s K.K := by
  refine fn_intro fun l v hF s R h => ?_
  unfold hex36F at hF
  split at hF
  rotate_left
  · cases hF
  rename_i w
  split at hF <;> cases hF
  rename_i hw
  obtain ⟨w, rfl⟩ : ∃ n : Nat, w = n := ⟨w.toNat, by omega⟩
  exact hex36_c' B w (by omega) s R (by simpa using h)
theorem text6_c (B : World) : ∀ args s K, (Spec.fn textF).run args s K → CallOK Tryz.prog B 37 args s K.K := by
  refine fn_intro fun l v hF s R h => ?_
  unfold textF at hF
  split at hF
  · rename_i c
    split at hF
    · rename_i k x hc
      cases hF
      have e : c = #[.int .i64 k, .int .i64 x] := by rw [← Array.toArray_toList (xs := c), hc]
      subst e
      exact text6_c' B k x s R h
    · cases hF
  · cases hF
def numSp : Spec where
  run args s K := ∃ (o : OpS) (c : Int), args = #[o.val, .int .u8 c] ∧ ∀ m, s.n ≤ m → K.K (.int .i64 (numS o c)) (s.more m)
  mono args s K K' h := fun ⟨o, c, h1, h2⟩ => ⟨o, c, h1, fun m hm => h _ _ (h2 m hm)⟩
theorem num_c2 (B : World) : ∀ args s K, numSp.run args s K → CallOK Tryz.prog B 38 args s K.K := by
  rintro args s K ⟨o, c, rfl, h⟩
  exact num_c' B o c s _ h
noncomputable def eLine34 (B : World) : Env Tryz.prog := ((((((((Env.base Tryz.prog B).ext 31 (.fn nameF) (name31_c B)).ext 32 plainSp (plain31_c2 B)).ext 33 (.fn mayF) (may_f B)).ext 34 (.fn usesF) (uses31_c B)).ext 35 (.fn digitsF) (digits_f B)).ext 36 (.fn hex36F) (hex36_c B)).ext 37 (.fn textF) (text6_c B)).ext 38 numSp (num_c2 B)
theorem eLine34_31 (B : World) (d : Int) (s : St) (K : Kp (Value → St → Prop)) : XCallOK Tryz.prog (eLine34 B) 31 #[.int .i64 d] s K = XMore s (str (opName d)) K := rfl
theorem eLine34_34 (B : World) (d : Int) (s : St) (K : Kp (Value → St → Prop)) : XCallOK Tryz.prog (eLine34 B) 34 #[.int .i64 d] s K = XMore s (str (opUses d)) K := rfl
theorem eLine34_33 (B : World) (k x : Int) (s : St) (K : Kp (Value → St → Prop)) : XCallOK Tryz.prog (eLine34 B) 33 #[.agg #[.int .i64 k, .int .i64 x]] s K = XMore s (.bool (mayV k x)) K := rfl
theorem eLine34_35 (B : World) {n : Int} (h : i64ok n) (s : St) (K : Kp (Value → St → Prop)) : XCallOK Tryz.prog (eLine34 B) 35 #[.int .i64 n] s K = XMore s (str (Lib.itoa n)) K :=
  (show _ = (Spec.fn digitsF).run #[.int .i64 n] s K from rfl).trans (Spec.fn_run (by unfold i64ok at h; simp [digitsF, h.1, h.2]) s K)
theorem eLine34_36 (B : World) {w : Int} (h : 0 ≤ w ∧ w < 18446744073709551616) (s : St) (K : Kp (Value → St → Prop)) : XCallOK Tryz.prog (eLine34 B) 36 #[.int .u64 w] s K = XMore s (str (hexS w.toNat)) K :=
  (show _ = (Spec.fn hex36F).run #[.int .u64 w] s K from rfl).trans (Spec.fn_run (by simp [hex36F, h.1, h.2]) s K)
theorem eLine34_37 (B : World) (k x : Int) (s : St) (K : Kp (Value → St → Prop)) : XCallOK Tryz.prog (eLine34 B) 37 #[.agg #[.int .i64 k, .int .i64 x]] s K = XMore s (str (valText k x)) K := rfl
theorem eLine34_32 (B : World) (o : OpS) (s : St) (K : Kp (Value → St → Prop)) : XCallOK Tryz.prog (eLine34 B) 32 #[.agg #[.int .i64 o.dO, .int .i64 o.h, .int .i64 o.g, .int .i64 o.i, .int .i64 o.vk, .int .i64 o.vx, .int .u64 o.w, .int .i64 o.kind, .int .i64 o.fields, .int .i64 o.raws, .int .u8 o.policy]] s K = XMore s (plainS o).val K :=
  (show _ = plainSp.run #[o.val] s K from rfl).trans (plain_run o s K)
theorem eLine34_38 (B : World) (args : Array Value) (s : St) (K : Kp (Value → St → Prop)) : XCallOK Tryz.prog (eLine34 B) 38 args s K = numSp.run args s K := rfl
def pl16 : Nat → Option DPlan := fun i => if i = 1 then some (tks [0, 1] (.one 2 [] (tks [3, 4, 5, 7] (.one 6 [7] (tks [8, 9, 10, 11, 12] (.one 13 [] (tks [14, 15] .done))))))) else if i = 9 then some (tks [0, 1, 2, 3, 4, 5] (.one 6 [0, 1] (.one 7 [0, 1] (tks [8] (.one 9 [] .done))))) else none
theorem pl16_1 : pl16 1 = some (tks [0, 1] (.one 2 [] (tks [3, 4, 5, 7] (.one 6 [7] (tks [8, 9, 10, 11, 12] (.one 13 [] (tks [14, 15] .done))))))) := rfl
theorem pl16_9 : pl16 9 = some (tks [0, 1, 2, 3, 4, 5] (.one 6 [0, 1] (.one 7 [0, 1] (tks [8] (.one 9 [] .done))))) := rfl
theorem line34_c' (B : World) (o : OpS) (ho : o.ok) (s : St) (R : Value → St → Prop) (h : ∀ n, s.n ≤ n → R (lineV o) (s.more n)) : CallOK Tryz.prog B 16 #[o.val] s R := by
  have hinj := fun a b : Bs => propext (bs_inj a b)
  have bad : ∀ {t : St}, s.wf → Ext s t → lineS o = none → Drop R (.tuple #[str [], .int .i64 1]) t := by
    intro t hw he e
    refine drop_ext hw he fun n hn => ?_
    have := h n hn
    rw [lineV, e] at this; exact this
  refine call_of (eLine34 B) pl16 mixed Tryz.func16 rfl (by simp [Tryz.ntmps16]) (by kernel_rfl) fun hw => ?_
  simp (maxSteps := 2000000) -dsimp (disch := omega) only [pl16_1, OpS.cells, eLine34_31, ↓Tryz.ntmps16, ↓res16, ↓xpre0, xpost0, xpost1, xpost2, xpost3, facts0, facts1, calls0, St.wf.none hw, Nat.add_assoc, ↓reduceIte, Nat.reduceEqDiff, Nat.reduceMul, Nat.reduceAdd, Nat.reduceSub, Nat.reduceLeDiff, Nat.reduceLT, Int.reduceBEq, Int.reduceBNe, Int.reduceEq, Int.reduceNe, Int.reduceLT, Int.reduceLE, Int.reduceToNat, Int.reduceAdd, Int.reduceSub, Int.reduceMul, Int.cast_ofNat_Int]
  refine XMore_intro fun k1 => ?_
  by_cases hn : opName o.dO = []
  · simp (maxSteps := 2000000) -dsimp (disch := omega) only [pl16_1, OpS.cells, hn, eq_self_iff_true, decide_true, hinj, ↓Tryz.ntmps16, ↓res16, ↓xpre0, xpost0, xpost1, xpost2, xpost3, facts0, facts1, calls0, St.wf.none hw, Nat.add_assoc, ↓reduceIte, Nat.reduceEqDiff, Nat.reduceMul, Nat.reduceAdd, Nat.reduceSub, Nat.reduceLeDiff, Nat.reduceLT, Int.reduceBEq, Int.reduceBNe, Int.reduceEq, Int.reduceNe, Int.reduceLT, Int.reduceLE, Int.reduceToNat, Int.reduceAdd, Int.reduceSub, Int.reduceMul, Int.cast_ofNat_Int]
    refine bad hw ?_ (by unfold lineS; rw [if_pos (.inl hn)])
    (repeat (first | with_reducible exact Ext.refl _ | with_reducible assumption | refine Ext.lay ?_ _ _ _ (by omega) (by first | omega | (simp only [lay_n, upd_n, more_n, froz_n]; omega)) | refine Ext.upd ?_ _ _ (by omega) | refine Ext.more ?_ _ (by first | omega | (simp only [lay_n, upd_n, more_n, froz_n]; omega)) | refine Ext.frz ?_ hw _ _ _ (by omega) (by first | omega | (simp only [lay_n, upd_n, more_n, froz_n]; omega))))
  · simp (maxSteps := 2000000) -dsimp (disch := omega) only [pl16_1, OpS.cells, hn, decide_false, hinj, eLine34_32, ↓Tryz.ntmps16, ↓res16, ↓xpre0, xpost0, xpost1, xpost2, xpost3, facts0, facts1, calls0, St.wf.none hw, Nat.add_assoc, ↓reduceIte, Nat.reduceEqDiff, Nat.reduceMul, Nat.reduceAdd, Nat.reduceSub, Nat.reduceLeDiff, Nat.reduceLT, Int.reduceBEq, Int.reduceBNe, Int.reduceEq, Int.reduceNe, Int.reduceLT, Int.reduceLE, Int.reduceToNat, Int.reduceAdd, Int.reduceSub, Int.reduceMul, Int.cast_ofNat_Int]
    refine XMore_intro fun k2 => ?_
    cases hp : eqOp (plainS o) o with
    | false =>
      simp (maxSteps := 2000000) -dsimp (disch := omega) only [pl16_1, OpS.cells, hn, decide_false, hinj, ↓eqOp_eqL, hp, ↓Tryz.ntmps16, ↓res16, ↓xpre0, xpost0, xpost1, xpost2, xpost3, facts0, facts1, calls0, St.wf.none hw, Nat.add_assoc, ↓reduceIte, Nat.reduceEqDiff, Nat.reduceMul, Nat.reduceAdd, Nat.reduceSub, Nat.reduceLeDiff, Nat.reduceLT, Int.reduceBEq, Int.reduceBNe, Int.reduceEq, Int.reduceNe, Int.reduceLT, Int.reduceLE, Int.reduceToNat, Int.reduceAdd, Int.reduceSub, Int.reduceMul, Int.cast_ofNat_Int]
      refine bad hw ?_ (by unfold lineS; rw [if_pos (.inr (.inl hp))])
      (repeat (first | with_reducible exact Ext.refl _ | with_reducible assumption | refine Ext.lay ?_ _ _ _ (by omega) (by first | omega | (simp only [lay_n, upd_n, more_n, froz_n]; omega)) | refine Ext.upd ?_ _ _ (by omega) | refine Ext.more ?_ _ (by first | omega | (simp only [lay_n, upd_n, more_n, froz_n]; omega)) | refine Ext.frz ?_ hw _ _ _ (by omega) (by first | omega | (simp only [lay_n, upd_n, more_n, froz_n]; omega))))
    | true =>
      have hpe := (eqOp_iff _ _).1 hp
      simp (maxSteps := 2000000) -dsimp (disch := omega) only [pl16_1, OpS.cells, hn, decide_false, hinj, ↓eqOp_eqL, hp, eLine34_33, ↓Tryz.ntmps16, ↓res16, ↓xpre0, xpost0, xpost1, xpost2, xpost3, facts0, facts1, calls0, St.wf.none hw, Nat.add_assoc, ↓reduceIte, Nat.reduceEqDiff, Nat.reduceMul, Nat.reduceAdd, Nat.reduceSub, Nat.reduceLeDiff, Nat.reduceLT, Int.reduceBEq, Int.reduceBNe, Int.reduceEq, Int.reduceNe, Int.reduceLT, Int.reduceLE, Int.reduceToNat, Int.reduceAdd, Int.reduceSub, Int.reduceMul, Int.cast_ofNat_Int]
      refine XMore_intro fun k3 => ?_
      cases hm : mayV o.vk o.vx with
      | false =>
        simp (maxSteps := 2000000) -dsimp (disch := omega) only [pl16_1, OpS.cells, hn, decide_false, hinj, hm, ↓Tryz.ntmps16, ↓res16, ↓xpre0, xpost0, xpost1, xpost2, xpost3, facts0, facts1, calls0, St.wf.none hw, Nat.add_assoc, ↓reduceIte, Nat.reduceEqDiff, Nat.reduceMul, Nat.reduceAdd, Nat.reduceSub, Nat.reduceLeDiff, Nat.reduceLT, Int.reduceBEq, Int.reduceBNe, Int.reduceEq, Int.reduceNe, Int.reduceLT, Int.reduceLE, Int.reduceToNat, Int.reduceAdd, Int.reduceSub, Int.reduceMul, Int.cast_ofNat_Int]
        refine bad hw ?_ (by unfold lineS; rw [if_pos (.inr (.inr hm))])
        (repeat (first | with_reducible exact Ext.refl _ | with_reducible assumption | refine Ext.lay ?_ _ _ _ (by omega) (by first | omega | (simp only [lay_n, upd_n, more_n, froz_n]; omega)) | refine Ext.upd ?_ _ _ (by omega) | refine Ext.more ?_ _ (by first | omega | (simp only [lay_n, upd_n, more_n, froz_n]; omega)) | refine Ext.frz ?_ hw _ _ _ (by omega) (by first | omega | (simp only [lay_n, upd_n, more_n, froz_n]; omega))))
      | true =>
        simp (maxSteps := 2000000) -dsimp (disch := omega) only [pl16_1, OpS.cells, hn, decide_false, hinj, hm, eLine34_31, ↓Tryz.ntmps16, ↓res16, ↓xpre0, xpost0, xpost1, xpost2, xpost3, facts0, facts1, calls0, St.wf.none hw, Nat.add_assoc, ↓reduceIte, Nat.reduceEqDiff, Nat.reduceMul, Nat.reduceAdd, Nat.reduceSub, Nat.reduceLeDiff, Nat.reduceLT, Int.reduceBEq, Int.reduceBNe, Int.reduceEq, Int.reduceNe, Int.reduceLT, Int.reduceLE, Int.reduceToNat, Int.reduceAdd, Int.reduceSub, Int.reduceMul, Int.cast_ofNat_Int]
        refine XMore_intro fun k4 => ?_
        simp (maxSteps := 2000000) -dsimp (disch := omega) only [eLine34_34, ↓Tryz.ntmps16, ↓res16, ↓xpre0, xpost0, xpost1, xpost2, xpost3, facts0, facts1, calls0, St.wf.none hw, Nat.add_assoc, ↓reduceIte, Nat.reduceEqDiff, Nat.reduceMul, Nat.reduceAdd, Nat.reduceSub, Nat.reduceLeDiff, Nat.reduceLT, Int.reduceBEq, Int.reduceBNe, Int.reduceEq, Int.reduceNe, Int.reduceLT, Int.reduceLE, Int.reduceToNat, Int.reduceAdd, Int.reduceSub, Int.reduceMul, Int.cast_ofNat_Int]
        refine XMore_intro fun k5 => ?_
        simp (maxSteps := 2000000) -dsimp (disch := omega) only [↓Tryz.ntmps16, ↓res16, ↓xpre0, xpost0, xpost1, xpost2, xpost3, facts0, facts1, calls0, St.wf.none hw, Nat.add_assoc, ↓reduceIte, Nat.reduceEqDiff, Nat.reduceMul, Nat.reduceAdd, Nat.reduceSub, Nat.reduceLeDiff, Nat.reduceLT, Int.reduceBEq, Int.reduceBNe, Int.reduceEq, Int.reduceNe, Int.reduceLT, Int.reduceLE, Int.reduceToNat, Int.reduceAdd, Int.reduceSub, Int.reduceMul, Int.cast_ofNat_Int]
        have hln : lineS o = some (opName o.dO ++ tailS o (opUses o.dO)) := by unfold lineS; rw [if_neg (by simp [hn, hp, hm])]
        have hu4 := opUses_length o.dO
        have hnl := opName_length o.dO
        refine loop_wf (pl := pl16) mixed (by kernel_rfl) (fun m fr t => ∃ i, i ≤ (opUses o.dO).length ∧ m = (opUses o.dO).length - i ∧ fr.ds = [] ∧ Ext s t ∧ s.n < t.n ∧ fr.ρ 1 = .pointer (some ⟨s.n, 0, none⟩) ∧
          fr.ρ 4 = str (opName o.dO ++ tailS o ((opUses o.dO).take i)) ∧ fr.ρ 5 = str (opUses o.dO) ∧ fr.ρ 6 = .int .i64 (i : Nat) ∧ t.h s.n = some (.cells o.cells.toArray 35)) (opUses o.dO).length ?_ ?_
        · refine ⟨0, Nat.zero_le _, rfl, rfl, ?_, ?_, rfl, ?_, rfl, rfl, ?_⟩
          · (repeat (first | with_reducible exact Ext.refl _ | with_reducible assumption | refine Ext.lay ?_ _ _ _ (by omega) (by first | omega | (simp only [lay_n, upd_n, more_n, froz_n]; omega)) | refine Ext.upd ?_ _ _ (by omega) | refine Ext.more ?_ _ (by first | omega | (simp only [lay_n, upd_n, more_n, froz_n]; omega)) | refine Ext.frz ?_ hw _ _ _ (by omega) (by first | omega | (simp only [lay_n, upd_n, more_n, froz_n]; omega))))
          · simp (maxSteps := 2000000) -dsimp (disch := omega) only [↓xpre0, xpost0, xpost1, xpost2, xpost3, facts0, facts1, calls0, St.wf.none hw, Nat.add_assoc, ↓reduceIte, Nat.reduceEqDiff, Nat.reduceMul, Nat.reduceAdd, Nat.reduceSub, Nat.reduceLeDiff, Nat.reduceLT, Int.reduceBEq, Int.reduceBNe, Int.reduceEq, Int.reduceNe, Int.reduceLT, Int.reduceLE, Int.reduceToNat, Int.reduceAdd, Int.reduceSub, Int.reduceMul, Int.cast_ofNat_Int]
            try omega
          · simp (maxSteps := 2000000) -dsimp (disch := omega) only [List.take_zero, tailS, ↓xpre0, xpost0, xpost1, xpost2, xpost3, facts0, facts1, calls0, St.wf.none hw, Nat.add_assoc, ↓reduceIte, Nat.reduceEqDiff, Nat.reduceMul, Nat.reduceAdd, Nat.reduceSub, Nat.reduceLeDiff, Nat.reduceLT, Int.reduceBEq, Int.reduceBNe, Int.reduceEq, Int.reduceNe, Int.reduceLT, Int.reduceLE, Int.reduceToNat, Int.reduceAdd, Int.reduceSub, Int.reduceMul, Int.cast_ofNat_Int]
          · simp (maxSteps := 2000000) -dsimp (disch := omega) only [OpS.cells, ↓xpre0, xpost0, xpost1, xpost2, xpost3, facts0, facts1, calls0, St.wf.none hw, Nat.add_assoc, ↓reduceIte, Nat.reduceEqDiff, Nat.reduceMul, Nat.reduceAdd, Nat.reduceSub, Nat.reduceLeDiff, Nat.reduceLT, Int.reduceBEq, Int.reduceBNe, Int.reduceEq, Int.reduceNe, Int.reduceLT, Int.reduceLE, Int.reduceToNat, Int.reduceAdd, Int.reduceSub, Int.reduceMul, Int.cast_ofNat_Int]
        · rintro m fr t ht ⟨i, hi, rfl, hds, hext, hn1, h1, h4, h5, h6, m1⟩
          by_cases hlt : i < (opUses o.dO).length
          · have hlt' : (i : Int) < ((opUses o.dO).length : Int) := by omega
            have hwr : IntKind.i64.wrap ((i : Int) + 1) = ((i + 1 : Nat) : Int) := by rw [wrap_i64 (by omega) (by omega)]; omega
            have hgi : (opUses o.dO).toArray.getD i 0 = (opUses o.dO)[i] := by simp [hlt]
            have hsn := tailS_snoc o (opUses o.dO) i hlt
            have htl := tailS_length ho ((opUses o.dO).take i)
            have htk : ((opUses o.dO).take i).length ≤ 4 := by simp; omega
            generalize (opUses o.dO)[i] = q at hgi hsn
            have hsl := showS_length ho q.toNat
            have hi0 : (0 : Int) ≤ (i : Int) := by omega
            simp only [OpS.cells] at m1
            have hpol : i64ok o.policy := ⟨by have := ho.policy; omega, by have := ho.policy; omega⟩
            have hpw : IntKind.i64.wrap o.policy = o.policy := wrap_i64 hpol.1 hpol.2
            by_cases c1 : (q.toNat : Int) = 112
            · have hs : showS o q.toNat = Lib.itoa o.policy := by unfold showS; rw [if_pos c1]
              rw [hs] at hsl
              simp (maxSteps := 2000000) -dsimp (disch := omega) only [h1, h4, h5, h6, m1, hds, hlt', hi0, hgi, c1, decide_true, Int.toNat_natCast, hpw, eLine34_35 B hpol, ↓Tryz.ntmps16, ↓res16, ↓xpre0, xpost0, xpost1, xpost2, xpost3, facts0, facts1, calls0, St.wf.none hw, Nat.add_assoc, ↓reduceIte, Nat.reduceEqDiff, Nat.reduceMul, Nat.reduceAdd, Nat.reduceSub, Nat.reduceLeDiff, Nat.reduceLT, Int.reduceBEq, Int.reduceBNe, Int.reduceEq, Int.reduceNe, Int.reduceLT, Int.reduceLE, Int.reduceToNat, Int.reduceAdd, Int.reduceSub, Int.reduceMul, Int.cast_ofNat_Int]
              refine ⟨by first | omega | (simp only [List.length_append, List.length_cons, List.length_nil]; omega), fun _ => XMore_intro fun k => ?_⟩
              simp (maxSteps := 2000000) -dsimp (disch := omega) only [h1, h4, h5, h6, m1, hds, hlt', hi0, hgi, hwr, ↓Tryz.ntmps16, ↓res16, ↓xpre0, xpost0, xpost1, xpost2, xpost3, facts0, facts1, calls0, St.wf.none hw, Nat.add_assoc, ↓reduceIte, Nat.reduceEqDiff, Nat.reduceMul, Nat.reduceAdd, Nat.reduceSub, Nat.reduceLeDiff, Nat.reduceLT, Int.reduceBEq, Int.reduceBNe, Int.reduceEq, Int.reduceNe, Int.reduceLT, Int.reduceLE, Int.reduceToNat, Int.reduceAdd, Int.reduceSub, Int.reduceMul, Int.cast_ofNat_Int]
              refine ⟨by first | omega | (simp only [List.length_append, List.length_cons, List.length_nil]; omega), fun _ => ⟨(opUses o.dO).length - (i + 1), by omega, i + 1, by omega, rfl, ?_, ?_, ?_, rfl, ?_⟩⟩
              · (repeat (first | with_reducible exact Ext.refl _ | with_reducible assumption | refine Ext.lay ?_ _ _ _ (by omega) (by first | omega | (simp only [lay_n, upd_n, more_n, froz_n]; omega)) | refine Ext.upd ?_ _ _ (by omega) | refine Ext.more ?_ _ (by first | omega | (simp only [lay_n, upd_n, more_n, froz_n]; omega)) | refine Ext.frz ?_ hw _ _ _ (by omega) (by first | omega | (simp only [lay_n, upd_n, more_n, froz_n]; omega))))
              · first | omega | (simp only [more_n]; omega)
              · rw [hsn, hs]; simp
              · simp (maxSteps := 2000000) -dsimp (disch := omega) only [m1, OpS.cells, ↓xpre0, xpost0, xpost1, xpost2, xpost3, facts0, facts1, calls0, St.wf.none hw, Nat.add_assoc, ↓reduceIte, Nat.reduceEqDiff, Nat.reduceMul, Nat.reduceAdd, Nat.reduceSub, Nat.reduceLeDiff, Nat.reduceLT, Int.reduceBEq, Int.reduceBNe, Int.reduceEq, Int.reduceNe, Int.reduceLT, Int.reduceLE, Int.reduceToNat, Int.reduceAdd, Int.reduceSub, Int.reduceMul, Int.cast_ofNat_Int]
            · by_cases c2 : (q.toNat : Int) = 119
              · have hs : showS o q.toNat = hexS o.w.toNat := by unfold showS; rw [if_neg c1, if_pos c2]
                rw [hs] at hsl
                simp (maxSteps := 2000000) -dsimp (disch := omega) only [h1, h4, h5, h6, m1, hds, hlt', hi0, hgi, hwr, c1, c2, decide_true, decide_false, Int.toNat_natCast, eLine34_36 B ho.w, ↓Tryz.ntmps16, ↓res16, ↓xpre0, xpost0, xpost1, xpost2, xpost3, facts0, facts1, calls0, St.wf.none hw, Nat.add_assoc, ↓reduceIte, Nat.reduceEqDiff, Nat.reduceMul, Nat.reduceAdd, Nat.reduceSub, Nat.reduceLeDiff, Nat.reduceLT, Int.reduceBEq, Int.reduceBNe, Int.reduceEq, Int.reduceNe, Int.reduceLT, Int.reduceLE, Int.reduceToNat, Int.reduceAdd, Int.reduceSub, Int.reduceMul, Int.cast_ofNat_Int]
                refine ⟨by first | omega | (simp only [List.length_append, List.length_cons, List.length_nil]; omega), fun _ => XMore_intro fun k => ?_⟩
                simp (maxSteps := 2000000) -dsimp (disch := omega) only [h1, h4, h5, h6, m1, hds, hlt', hi0, hgi, hwr, ↓Tryz.ntmps16, ↓res16, ↓xpre0, xpost0, xpost1, xpost2, xpost3, facts0, facts1, calls0, St.wf.none hw, Nat.add_assoc, ↓reduceIte, Nat.reduceEqDiff, Nat.reduceMul, Nat.reduceAdd, Nat.reduceSub, Nat.reduceLeDiff, Nat.reduceLT, Int.reduceBEq, Int.reduceBNe, Int.reduceEq, Int.reduceNe, Int.reduceLT, Int.reduceLE, Int.reduceToNat, Int.reduceAdd, Int.reduceSub, Int.reduceMul, Int.cast_ofNat_Int]
                refine ⟨by first | omega | (simp only [List.length_append, List.length_cons, List.length_nil]; omega), fun _ => ⟨(opUses o.dO).length - (i + 1), by omega, i + 1, by omega, rfl, ?_, ?_, ?_, rfl, ?_⟩⟩
                · (repeat (first | with_reducible exact Ext.refl _ | with_reducible assumption | refine Ext.lay ?_ _ _ _ (by omega) (by first | omega | (simp only [lay_n, upd_n, more_n, froz_n]; omega)) | refine Ext.upd ?_ _ _ (by omega) | refine Ext.more ?_ _ (by first | omega | (simp only [lay_n, upd_n, more_n, froz_n]; omega)) | refine Ext.frz ?_ hw _ _ _ (by omega) (by first | omega | (simp only [lay_n, upd_n, more_n, froz_n]; omega))))
                · first | omega | (simp only [more_n]; omega)
                · rw [hsn, hs]; simp
                · simp (maxSteps := 2000000) -dsimp (disch := omega) only [m1, OpS.cells, ↓xpre0, xpost0, xpost1, xpost2, xpost3, facts0, facts1, calls0, St.wf.none hw, Nat.add_assoc, ↓reduceIte, Nat.reduceEqDiff, Nat.reduceMul, Nat.reduceAdd, Nat.reduceSub, Nat.reduceLeDiff, Nat.reduceLT, Int.reduceBEq, Int.reduceBNe, Int.reduceEq, Int.reduceNe, Int.reduceLT, Int.reduceLE, Int.reduceToNat, Int.reduceAdd, Int.reduceSub, Int.reduceMul, Int.cast_ofNat_Int]
              · by_cases c3 : (q.toNat : Int) = 118
                · have hs : showS o q.toNat = valText o.vk o.vx := by unfold showS; rw [if_neg c1, if_neg c2, if_pos c3]
                  rw [hs] at hsl
                  simp (maxSteps := 2000000) -dsimp (disch := omega) only [h1, h4, h5, h6, m1, hds, hlt', hi0, hgi, hwr, c1, c2, c3, decide_true, decide_false, Int.toNat_natCast, eLine34_37, ↓Tryz.ntmps16, ↓res16, ↓xpre0, xpost0, xpost1, xpost2, xpost3, facts0, facts1, calls0, St.wf.none hw, Nat.add_assoc, ↓reduceIte, Nat.reduceEqDiff, Nat.reduceMul, Nat.reduceAdd, Nat.reduceSub, Nat.reduceLeDiff, Nat.reduceLT, Int.reduceBEq, Int.reduceBNe, Int.reduceEq, Int.reduceNe, Int.reduceLT, Int.reduceLE, Int.reduceToNat, Int.reduceAdd, Int.reduceSub, Int.reduceMul, Int.cast_ofNat_Int]
                  refine ⟨by first | omega | (simp only [List.length_append, List.length_cons, List.length_nil]; omega), fun _ => XMore_intro fun k => ?_⟩
                  simp (maxSteps := 2000000) -dsimp (disch := omega) only [h1, h4, h5, h6, m1, hds, hlt', hi0, hgi, hwr, ↓Tryz.ntmps16, ↓res16, ↓xpre0, xpost0, xpost1, xpost2, xpost3, facts0, facts1, calls0, St.wf.none hw, Nat.add_assoc, ↓reduceIte, Nat.reduceEqDiff, Nat.reduceMul, Nat.reduceAdd, Nat.reduceSub, Nat.reduceLeDiff, Nat.reduceLT, Int.reduceBEq, Int.reduceBNe, Int.reduceEq, Int.reduceNe, Int.reduceLT, Int.reduceLE, Int.reduceToNat, Int.reduceAdd, Int.reduceSub, Int.reduceMul, Int.cast_ofNat_Int]
                  refine ⟨by first | omega | (simp only [List.length_append, List.length_cons, List.length_nil]; omega), fun _ => ⟨(opUses o.dO).length - (i + 1), by omega, i + 1, by omega, rfl, ?_, ?_, ?_, rfl, ?_⟩⟩
                  · (repeat (first | with_reducible exact Ext.refl _ | with_reducible assumption | refine Ext.lay ?_ _ _ _ (by omega) (by first | omega | (simp only [lay_n, upd_n, more_n, froz_n]; omega)) | refine Ext.upd ?_ _ _ (by omega) | refine Ext.more ?_ _ (by first | omega | (simp only [lay_n, upd_n, more_n, froz_n]; omega)) | refine Ext.frz ?_ hw _ _ _ (by omega) (by first | omega | (simp only [lay_n, upd_n, more_n, froz_n]; omega))))
                  · first | omega | (simp only [more_n]; omega)
                  · rw [hsn, hs]; simp
                  · simp (maxSteps := 2000000) -dsimp (disch := omega) only [m1, OpS.cells, ↓xpre0, xpost0, xpost1, xpost2, xpost3, facts0, facts1, calls0, St.wf.none hw, Nat.add_assoc, ↓reduceIte, Nat.reduceEqDiff, Nat.reduceMul, Nat.reduceAdd, Nat.reduceSub, Nat.reduceLeDiff, Nat.reduceLT, Int.reduceBEq, Int.reduceBNe, Int.reduceEq, Int.reduceNe, Int.reduceLT, Int.reduceLE, Int.reduceToNat, Int.reduceAdd, Int.reduceSub, Int.reduceMul, Int.cast_ofNat_Int]
                · have hs : showS o q.toNat = Lib.itoa (numS o q.toNat) := by unfold showS; rw [if_neg c1, if_neg c2, if_neg c3]
                  rw [hs] at hsl
                  have hno := numS_ok ho q.toNat
                  simp (maxSteps := 2000000) -dsimp (disch := omega) only [h1, h4, h5, h6, m1, hds, hlt', hi0, hgi, hwr, pl16_9, c1, c2, c3, decide_true, decide_false, Int.toNat_natCast, eLine34_38, ↓Tryz.ntmps16, ↓res16, ↓xpre0, xpost0, xpost1, xpost2, xpost3, facts0, facts1, calls0, St.wf.none hw, Nat.add_assoc, ↓reduceIte, Nat.reduceEqDiff, Nat.reduceMul, Nat.reduceAdd, Nat.reduceSub, Nat.reduceLeDiff, Nat.reduceLT, Int.reduceBEq, Int.reduceBNe, Int.reduceEq, Int.reduceNe, Int.reduceLT, Int.reduceLE, Int.reduceToNat, Int.reduceAdd, Int.reduceSub, Int.reduceMul, Int.cast_ofNat_Int]
                  refine ⟨by first | omega | (simp only [List.length_append, List.length_cons, List.length_nil]; omega), fun _ => ⟨o, q.toNat, rfl, fun n2 hn2 => ?_⟩⟩
                  simp (maxSteps := 2000000) -dsimp (disch := omega) only [h1, h4, h5, h6, m1, hds, hlt', hi0, hgi, hwr, pl16_9, c1, c2, c3, decide_true, decide_false, Int.toNat_natCast, eLine34_35 B hno, ↓Tryz.ntmps16, ↓res16, ↓xpre0, xpost0, xpost1, xpost2, xpost3, facts0, facts1, calls0, St.wf.none hw, Nat.add_assoc, ↓reduceIte, Nat.reduceEqDiff, Nat.reduceMul, Nat.reduceAdd, Nat.reduceSub, Nat.reduceLeDiff, Nat.reduceLT, Int.reduceBEq, Int.reduceBNe, Int.reduceEq, Int.reduceNe, Int.reduceLT, Int.reduceLE, Int.reduceToNat, Int.reduceAdd, Int.reduceSub, Int.reduceMul, Int.cast_ofNat_Int]
                  refine ⟨⟨by first | omega | (simp only [List.length_append, List.length_cons, List.length_nil]; omega), fun _ => trivial⟩, XMore_intro fun k => ?_⟩
                  simp (maxSteps := 2000000) -dsimp (disch := omega) only [h1, h4, h5, h6, m1, hds, hlt', hi0, hgi, hwr, pl16_9, ↓Tryz.ntmps16, ↓res16, ↓xpre0, xpost0, xpost1, xpost2, xpost3, facts0, facts1, calls0, St.wf.none hw, Nat.add_assoc, ↓reduceIte, Nat.reduceEqDiff, Nat.reduceMul, Nat.reduceAdd, Nat.reduceSub, Nat.reduceLeDiff, Nat.reduceLT, Int.reduceBEq, Int.reduceBNe, Int.reduceEq, Int.reduceNe, Int.reduceLT, Int.reduceLE, Int.reduceToNat, Int.reduceAdd, Int.reduceSub, Int.reduceMul, Int.cast_ofNat_Int]
                  refine ⟨⟨by first | omega | (simp only [List.length_append, List.length_cons, List.length_nil]; omega), fun _ => trivial⟩, by first | omega | (simp only [List.length_append, List.length_cons, List.length_nil]; omega), fun _ => ⟨(opUses o.dO).length - (i + 1), by omega, i + 1, by omega, rfl, ?_, by omega, ?_, rfl, ?_⟩⟩
                  · (repeat (first | with_reducible exact Ext.refl _ | with_reducible assumption | refine Ext.lay ?_ _ _ _ (by omega) (by first | omega | (simp only [lay_n, upd_n, more_n, froz_n]; omega)) | refine Ext.upd ?_ _ _ (by omega) | refine Ext.more ?_ _ (by first | omega | (simp only [lay_n, upd_n, more_n, froz_n]; omega)) | refine Ext.frz ?_ hw _ _ _ (by omega) (by first | omega | (simp only [lay_n, upd_n, more_n, froz_n]; omega))))
                  · rw [hsn, hs]; simp
                  · simp (maxSteps := 2000000) -dsimp (disch := omega) only [m1, OpS.cells, ↓xpre0, xpost0, xpost1, xpost2, xpost3, facts0, facts1, calls0, St.wf.none hw, Nat.add_assoc, ↓reduceIte, Nat.reduceEqDiff, Nat.reduceMul, Nat.reduceAdd, Nat.reduceSub, Nat.reduceLeDiff, Nat.reduceLT, Int.reduceBEq, Int.reduceBNe, Int.reduceEq, Int.reduceNe, Int.reduceLT, Int.reduceLE, Int.reduceToNat, Int.reduceAdd, Int.reduceSub, Int.reduceMul, Int.cast_ofNat_Int]
          · have htk : (opUses o.dO).take i = opUses o.dO := List.take_of_length_le (by omega)
            rw [htk] at h4
            have hge : ¬ ((i : Int) < ((opUses o.dO).length : Int)) := by omega
            simp (maxSteps := 2000000) -dsimp (disch := omega) only [h1, h4, h5, h6, hds, hge, decide_false, ↓Tryz.ntmps16, ↓res16, ↓xpre0, xpost0, xpost1, xpost2, xpost3, facts0, facts1, calls0, St.wf.none hw, Nat.add_assoc, ↓reduceIte, Nat.reduceEqDiff, Nat.reduceMul, Nat.reduceAdd, Nat.reduceSub, Nat.reduceLeDiff, Nat.reduceLT, Int.reduceBEq, Int.reduceBNe, Int.reduceEq, Int.reduceNe, Int.reduceLT, Int.reduceLE, Int.reduceToNat, Int.reduceAdd, Int.reduceSub, Int.reduceMul, Int.cast_ofNat_Int]
            refine drop_ext hw hext (fun n hn => ?_)
            have := h n hn
            rw [lineV, hln] at this; exact this
end Go.Proofs.TX
