/- The laws' own functions: same, awake. -/
import Derived.Test.YtfndoonmgilklaaGreatDoorXR10
set_option linter.unusedSimpArgs false
set_option linter.unusedVariables false
set_option maxRecDepth 100000
set_option maxHeartbeats 4000000
namespace Go.Proofs.TX
open Go
def pl10 : Nat → Option DPlan := fun i => if i = 6 then some (tks [0, 1, 2, 3, 4, 5, 6, 7, 8] .done) else none
theorem pl10_6 : pl10 6 = some (tks [0, 1, 2, 3, 4, 5, 6, 7, 8] .done) := rfl
theorem same_c (B : World) (l : List OpS) (hl : l.length ≤ 1000000) (va vb : Value) (s : St) (R : Value → St → Prop) (ha : OpsAt s va l) (hb : OpsAt s vb l) (h : ∀ n, s.n ≤ n → R (.bool true) (s.more n)) : CallOK Tryz.prog B 10 #[va, vb] s R := by
  obtain ⟨base, c, rfl⟩ := ha.slice
  obtain ⟨base', c', rfl⟩ := hb.slice
  refine call_of (.base Tryz.prog B) pl10 mixed Tryz.func10 rfl (by simp [Tryz.ntmps10]) (by kernel_rfl) fun hw => ?_
  simp (maxSteps := 2000000) -dsimp (disch := omega) only [↓Tryz.ntmps10, ↓res10, ↓xpre0, xpost0, xpost1, xpost2, xpost3, facts0, facts1, calls0, St.wf.none hw, Nat.add_assoc, ↓reduceIte, Nat.reduceEqDiff, Nat.reduceMul, Nat.reduceAdd, Nat.reduceSub, Nat.reduceLeDiff, Nat.reduceLT, Int.reduceBEq, Int.reduceBNe, Int.reduceEq, Int.reduceNe, Int.reduceLT, Int.reduceLE, Int.reduceToNat, Int.reduceAdd, Int.reduceSub, Int.reduceMul, Int.cast_ofNat_Int]
  refine loop_wf (pl := pl10) mixed (by kernel_rfl) (fun m fr t => ∃ i, i ≤ l.length ∧ m = l.length - i ∧ fr.ds = [] ∧ t = s ∧ fr.ρ 0 = .slice base l.length c ∧ fr.ρ 1 = .slice base' l.length c' ∧ fr.ρ 5 = .int .i64 (i : Nat)) l.length ?_ ?_
  · exact ⟨0, Nat.zero_le _, rfl, rfl, rfl, rfl, rfl, rfl⟩
  · rintro m fr t ht ⟨i, hi, rfl, hds, rfl, h0, h1, h5⟩
    by_cases hlt : i < l.length
    · have hlt' : (i : Int) < (l.length : Int) := by omega
      have hi0 : (0 : Int) ≤ (i : Int) := by omega
      have hwr : IntKind.i64.wrap ((i : Int) + 1) = ((i + 1 : Nat) : Int) := by rw [wrap_i64 (by omega) (by omega)]; omega
      rcases ha with ⟨e, _⟩ | ⟨b, off, _, C, T, fz, e, hb1, hb2, hC⟩
      · rw [e] at hlt; simp at hlt
      · cases e
        rcases hb with ⟨e, _⟩ | ⟨b', off', _, C', T', fz', e, hb1', hb2', hC'⟩
        · rw [e] at hlt; simp at hlt
        · cases e
          have hgo : l[i]? = some l[i] := List.getElem?_eq_getElem hlt
          have hcs := hC i _ hgo
          have hcs' := hC' i _ hgo
          generalize l[i] = o at hcs hcs'
          have c0 := hcs 0 _ rfl
          have c1 := hcs 1 _ rfl
          have c2 := hcs 2 _ rfl
          have c3 := hcs 3 _ rfl
          have c4 := hcs 4 _ rfl
          have c5 := hcs 5 _ rfl
          have c6 := hcs 6 _ rfl
          have c7 := hcs 7 _ rfl
          have c8 := hcs 8 _ rfl
          have c9 := hcs 9 _ rfl
          have c10 := hcs 10 _ rfl
          have d0 := hcs' 0 _ rfl
          have d1 := hcs' 1 _ rfl
          have d2 := hcs' 2 _ rfl
          have d3 := hcs' 3 _ rfl
          have d4 := hcs' 4 _ rfl
          have d5 := hcs' 5 _ rfl
          have d6 := hcs' 6 _ rfl
          have d7 := hcs' 7 _ rfl
          have d8 := hcs' 8 _ rfl
          have d9 := hcs' 9 _ rfl
          have d10 := hcs' 10 _ rfl
          simp (maxSteps := 2000000) -dsimp (disch := omega) only [pl10_6, h0, h1, h5, hds, hlt', hi0, hwr, hb1, hb2, hb1', hb2', Int.toNat_natCast, decide_true, c0, c1, c2, c3, c4, c5, c6, c7, c8, c9, c10, d0, d1, d2, d3, d4, d5, d6, d7, d8, d9, d10, ↓eqOp_eqL, eqOp_self, ↓Tryz.ntmps10, ↓res10, ↓xpre0, xpost0, xpost1, xpost2, xpost3, facts0, facts1, calls0, St.wf.none hw, Nat.add_assoc, ↓reduceIte, Nat.reduceEqDiff, Nat.reduceMul, Nat.reduceAdd, Nat.reduceSub, Nat.reduceLeDiff, Nat.reduceLT, Int.reduceBEq, Int.reduceBNe, Int.reduceEq, Int.reduceNe, Int.reduceLT, Int.reduceLE, Int.reduceToNat, Int.reduceAdd, Int.reduceSub, Int.reduceMul, Int.cast_ofNat_Int]
          exact ⟨l.length - (i + 1), by omega, i + 1, by omega, rfl, rfl⟩
    · have hge : ¬ ((i : Int) < (l.length : Int)) := by omega
      simp (maxSteps := 2000000) -dsimp (disch := omega) only [h0, h1, h5, hds, hge, decide_false, ↓Tryz.ntmps10, ↓res10, ↓xpre0, xpost0, xpost1, xpost2, xpost3, facts0, facts1, calls0, St.wf.none hw, Nat.add_assoc, ↓reduceIte, Nat.reduceEqDiff, Nat.reduceMul, Nat.reduceAdd, Nat.reduceSub, Nat.reduceLeDiff, Nat.reduceLT, Int.reduceBEq, Int.reduceBNe, Int.reduceEq, Int.reduceNe, Int.reduceLT, Int.reduceLE, Int.reduceToNat, Int.reduceAdd, Int.reduceSub, Int.reduceMul, Int.cast_ofNat_Int]
      exact drop_ext hw (Ext.refl t) h
def ansV (is : Bool) : Value := .agg #[.int .i64 0, .int .i64 0, .int .i64 0, .int .i64 0, .int .u64 0, .bool is, .int .i64 0, .int .i64 0, .int .i64 0]
theorem tell6_c (B : World) (o : OpS) (ho : o.dO = 6) (s : St) (R : Value → St → Prop) (h : ∀ n, s.n ≤ n → R (str [121, 101, 115]) (s.more n)) : CallOK Tryz.prog B 13 #[o.val, ansV true] s R := by
  refine call_of (.base Tryz.prog B) (fun _ => none) mixed Tryz.func13 rfl (by simp [Tryz.ntmps13]) (by kernel_rfl) fun hw => ?_
  simp (maxSteps := 2000000) -dsimp (disch := omega) only [OpS.cells, ansV, ho, ↓Tryz.ntmps13, ↓res13, ↓xpre0, xpost0, xpost1, xpost2, xpost3, facts0, facts1, calls0, St.wf.none hw, Nat.add_assoc, ↓reduceIte, Nat.reduceEqDiff, Nat.reduceMul, Nat.reduceAdd, Nat.reduceSub, Nat.reduceLeDiff, Nat.reduceLT, Int.reduceBEq, Int.reduceBNe, Int.reduceEq, Int.reduceNe, Int.reduceLT, Int.reduceLE, Int.reduceToNat, Int.reduceAdd, Int.reduceSub, Int.reduceMul, Int.cast_ofNat_Int]
  refine drop_ext hw ?_ h
  (repeat (first | with_reducible exact Ext.refl _ | with_reducible assumption | refine Ext.lay ?_ _ _ _ (by omega) (by first | omega | (simp only [lay_n, upd_n, more_n, froz_n]; omega)) | refine Ext.upd ?_ _ _ (by omega) | refine Ext.more ?_ _ (by first | omega | (simp only [lay_n, upd_n, more_n, froz_n]; omega)) | refine Ext.frz ?_ hw _ _ _ (by omega) (by first | omega | (simp only [lay_n, upd_n, more_n, froz_n]; omega))))
theorem tell3_c (B : World) (o : OpS) (ho : o.dO = 3) (s : St) (R : Value → St → Prop) (h : ∀ n, s.n ≤ n → R (str [111, 107]) (s.more n)) : CallOK Tryz.prog B 13 #[o.val, ansV false] s R := by
  refine call_of (.base Tryz.prog B) (fun _ => none) mixed Tryz.func13 rfl (by simp [Tryz.ntmps13]) (by kernel_rfl) fun hw => ?_
  simp (maxSteps := 2000000) -dsimp (disch := omega) only [OpS.cells, ansV, ho, ↓Tryz.ntmps13, ↓res13, ↓xpre0, xpost0, xpost1, xpost2, xpost3, facts0, facts1, calls0, St.wf.none hw, Nat.add_assoc, ↓reduceIte, Nat.reduceEqDiff, Nat.reduceMul, Nat.reduceAdd, Nat.reduceSub, Nat.reduceLeDiff, Nat.reduceLT, Int.reduceBEq, Int.reduceBNe, Int.reduceEq, Int.reduceNe, Int.reduceLT, Int.reduceLE, Int.reduceToNat, Int.reduceAdd, Int.reduceSub, Int.reduceMul, Int.cast_ofNat_Int]
  refine drop_ext hw ?_ h
  (repeat (first | with_reducible exact Ext.refl _ | with_reducible assumption | refine Ext.lay ?_ _ _ _ (by omega) (by first | omega | (simp only [lay_n, upd_n, more_n, froz_n]; omega)) | refine Ext.upd ?_ _ _ (by omega) | refine Ext.more ?_ _ (by first | omega | (simp only [lay_n, upd_n, more_n, froz_n]; omega)) | refine Ext.frz ?_ hw _ _ _ (by omega) (by first | omega | (simp only [lay_n, upd_n, more_n, froz_n]; omega))))
/-! ### awake -/
def sStore : Bs := [115, 116, 111, 114, 101, 32, 51, 32, 48, 32, 64, 55]
def sNew : Bs := [110, 101, 119, 32, 49, 32, 50, 32, 48, 32, 53]
def sRead : Bs := [35, 32, 97, 10, 10, 99, 111, 108, 108, 101, 99, 116, 32, 53, 10, 102, 108, 121]
def oStore : OpS := ⟨3, 3, 0, 0, 2, 7, 0, 0, 0, 0, 0⟩
def oNew : OpS := ⟨1, 0, 0, 0, 0, 0, 0, 1, 2, 0, 5⟩
def oCol : OpS := ⟨9, 0, 0, 0, 0, 0, 0, 0, 0, 0, 5⟩
theorem nS {l : Bs} {v : Option Int} (h : numR l = v) : numberS l = v := by rw [← numR_eq]; exact h
theorem pStore : parseS sStore = (oStore, 0) := by
  have h1 : splitS 32 sStore = [[115, 116, 111, 114, 101], [51], [48], [64, 55]] := by decide +kernel
  have h2 : ofS [115, 116, 111, 114, 101] = 3 := by decide +kernel
  have h3 : opUses 3 = [104, 105, 118] := rfl
  have n1 : numberS [51] = some 3 := nS (by decide +kernel)
  have n2 : numberS [48] = some 0 := nS (by decide +kernel)
  have n3 : numberS [55] = some 7 := nS (by decide +kernel)
  unfold parseS
  rw [h1]
  simp only [parseW, h2, h3]
  have hv : valR [64, 55] = some (2, 7) := by
    unfold valR
    rw [if_neg (by decide)]
    have e1 : Lib.hasPrefix [64, 55] [64] = true := by decide +kernel
    have e2 : Lib.trimPrefix [64, 55] [64] = [55] := by decide +kernel
    simp only [e1, if_true, e2, n3]
    decide +kernel
  have f1 : fieldsR [104, 105, 118] [[51], [48], [64, 55]] (.zero 3) = some oStore := by
    show ((fieldR (.zero 3) 104 [51]).bind fun o1 => (fieldR o1 105 [48]).bind fun o2 => (fieldR o2 118 [64, 55]).bind fun o3 => some o3) = _
    refine fstep (o' := withS (.zero 3) 104 3) (by unfold fieldR; rw [if_neg (by decide), if_neg (by decide), if_neg (by decide), n1]; rfl) ?_
    refine fstep (o' := withS (withS (.zero 3) 104 3) 105 0) (by unfold fieldR; rw [if_neg (by decide), if_neg (by decide), if_neg (by decide), n2]; rfl) ?_
    refine fstep (o' := oStore) (by unfold fieldR; rw [if_neg (by decide), if_neg (by decide), if_pos rfl, hv]; rfl) ?_
    rfl
  rw [f1]; rfl
theorem pNew : parseS sNew = (oNew, 0) := by
  have h1 : splitS 32 sNew = [[110, 101, 119], [49], [50], [48], [53]] := by decide +kernel
  have h2 : ofS [110, 101, 119] = 1 := by decide +kernel
  have h3 : opUses 1 = [107, 102, 114, 112] := rfl
  have n1 : numberS [49] = some 1 := nS (by decide +kernel)
  have n2 : numberS [50] = some 2 := nS (by decide +kernel)
  have n3 : numberS [48] = some 0 := nS (by decide +kernel)
  have n4 : numberS [53] = some 5 := nS (by decide +kernel)
  unfold parseS
  rw [h1]
  simp only [parseW, h2, h3]
  have f1 : fieldsR [107, 102, 114, 112] [[49], [50], [48], [53]] (.zero 1) = some oNew := by
    show ((fieldR (.zero 1) 107 [49]).bind fun o1 => (fieldR o1 102 [50]).bind fun o2 => (fieldR o2 114 [48]).bind fun o3 => (fieldR o3 112 [53]).bind fun o4 => some o4) = _
    refine fstep (o' := withS (.zero 1) 107 1) (by unfold fieldR; rw [if_neg (by decide), if_neg (by decide), if_neg (by decide), n1]; rfl) ?_
    refine fstep (o' := withS (withS (.zero 1) 107 1) 102 2) (by unfold fieldR; rw [if_neg (by decide), if_neg (by decide), if_neg (by decide), n2]; rfl) ?_
    refine fstep (o' := withS (withS (withS (.zero 1) 107 1) 102 2) 114 0) (by unfold fieldR; rw [if_neg (by decide), if_neg (by decide), if_neg (by decide), n3]; rfl) ?_
    refine fstep (o' := oNew) (by unfold fieldR; rw [if_pos rfl, n4]; rfl) ?_
    rfl
  rw [f1]; rfl
theorem pCol : parseS [99, 111, 108, 108, 101, 99, 116, 32, 53] = (oCol, 0) := by
  have h1 : splitS 32 [99, 111, 108, 108, 101, 99, 116, 32, 53] = [[99, 111, 108, 108, 101, 99, 116], [53]] := by decide +kernel
  have h2 : ofS [99, 111, 108, 108, 101, 99, 116] = 9 := by decide +kernel
  have h3 : opUses 9 = [112] := rfl
  have n4 : numberS [53] = some 5 := nS (by decide +kernel)
  unfold parseS
  rw [h1]
  simp only [parseW, h2, h3]
  have f1 : fieldsR [112] [[53]] (.zero 9) = some oCol := by
    show ((fieldR (.zero 9) 112 [53]).bind fun o4 => some o4) = _
    refine fstep (o' := oCol) (by unfold fieldR; rw [if_pos rfl, n4]; rfl) ?_
    rfl
  rw [f1]; rfl
theorem pDup : parseS [100, 117, 112] = (.zero 0, 14) := by
  have h1 : splitS 32 [100, 117, 112] = [[100, 117, 112]] := by decide +kernel
  have h2 : ofS [100, 117, 112] = 7 := by decide +kernel
  unfold parseS
  rw [h1]
  simp only [parseW, h2]
  rfl
theorem pDup2 : parseS [100, 117, 112, 32, 49, 32, 50] = (.zero 0, 15) := by
  have h1 : splitS 32 [100, 117, 112, 32, 49, 32, 50] = [[100, 117, 112], [49], [50]] := by decide +kernel
  have h2 : ofS [100, 117, 112] = 7 := by decide +kernel
  unfold parseS
  rw [h1]
  simp only [parseW, h2]
  rfl
theorem pDup01 : parseS [100, 117, 112, 32, 48, 49] = (.zero 0, 12) := by
  have h1 : splitS 32 [100, 117, 112, 32, 48, 49] = [[100, 117, 112], [48, 49]] := by decide +kernel
  have h2 : ofS [100, 117, 112] = 7 := by decide +kernel
  have h3 : opUses 7 = [104] := rfl
  have n1 : numberS [48, 49] = none := nS (by decide +kernel)
  unfold parseS
  rw [h1]
  simp only [parseW, h2, h3]
  have f1 : fieldsR [104] [[48, 49]] (.zero 7) = none := by
    show ((fieldR (.zero 7) 104 [48, 49]).bind fun o4 => some o4) = _
    have : fieldR (.zero 7) 104 [48, 49] = none := by unfold fieldR; rw [if_neg (by decide), if_neg (by decide), if_neg (by decide), n1]; rfl
    rw [this]; rfl
  rw [f1]; rfl
theorem pFly : parseS [102, 108, 121] = (.zero 0, 11) := by
  have h1 : splitS 32 [102, 108, 121] = [[102, 108, 121]] := by decide +kernel
  have h2 : ofS [102, 108, 121] = 0 := by decide +kernel
  unfold parseS
  rw [h1]
  simp only [parseW, h2]
  rfl
theorem pRead : readTS sRead = ([], 4, 11) := by
  have h1 : splitS 10 sRead = [[35, 32, 97], [], [99, 111, 108, 108, 101, 99, 116, 32, 53], [102, 108, 121]] := by decide +kernel
  unfold readTS
  rw [if_neg (by decide), h1, readGo, if_pos (by decide), readGo, if_pos (by decide), readGo, if_neg (by decide), pCol, if_neg (by simp), if_neg (by simp), readGo, if_neg (by decide), pFly, if_pos (by simp)]
  rfl
end Go.Proofs.TX
