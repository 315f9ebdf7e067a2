/- The laws' own functions: awake. -/
import Derived.Test.YtfndoonmgilklaaGreatDoorXL1
set_option linter.unusedSimpArgs false
set_option linter.unusedVariables false
set_option maxRecDepth 100000
set_option maxHeartbeats 4000000
namespace Go.Proofs.TX
open Go
def treadSp : Spec where
  run args s K := ∃ l : Bs, args = #[str l] ∧ l.length ≤ 100000 ∧ ∀ (v : Value) (s' : St), Grow s s' → OpsAt s' v (readTS l).1 → K.K (.tuple #[v, .int .i64 (readTS l).2.1, .int .i64 (readTS l).2.2]) s'
  mono args s K K' h := fun ⟨l, h1, h2, h3⟩ => ⟨l, h1, h2, fun v s' a b => h _ _ (h3 v s' a b)⟩
theorem tread_c (B : World) (hB : Good B) : ∀ args s K, treadSp.run args s K → CallOK Tryz.prog B 8 args s K.K := by
  rintro args s K ⟨l, rfl, h1, h2⟩
  exact tread_c' B hB l h1 s _ h2
theorem read34_c (B : World) : ∀ args s K, treadSp.run args s K → CallOK Tryz.prog B 9 args s K.K := by
  rintro args s K ⟨l, rfl, h1, h2⟩
  exact read34_c' B l h1 s _ h2
def tellSp : Spec where
  run args s K := ∃ o : OpS, (args = #[o.val, ansV true] ∧ o.dO = 6 ∧ ∀ n, s.n ≤ n → K.K (str [121, 101, 115]) (s.more n)) ∨ (args = #[o.val, ansV false] ∧ o.dO = 3 ∧ ∀ n, s.n ≤ n → K.K (str [111, 107]) (s.more n))
  mono args s K K' h := fun ⟨o, h1⟩ => ⟨o, h1.elim (fun ⟨a, b, c⟩ => .inl ⟨a, b, fun n hn => h _ _ (c n hn)⟩) (fun ⟨a, b, c⟩ => .inr ⟨a, b, fun n hn => h _ _ (c n hn)⟩)⟩
theorem tell_c (B : World) : ∀ args s K, tellSp.run args s K → CallOK Tryz.prog B 13 args s K.K := by
  rintro args s K ⟨o, ⟨rfl, h1, h2⟩ | ⟨rfl, h1, h2⟩⟩
  · exact tell6_c B o h1 s _ h2
  · exact tell3_c B o h1 s _ h2
noncomputable def eAwake (B : World) (hB : Good B) : Env Tryz.prog := ((((Env.base Tryz.prog B).ext 11 parseSp (parse_c B hB)).ext 12 lineSp (line_c B hB)).ext 8 treadSp (tread_c B hB)).ext 13 tellSp (tell_c B)
theorem eAwake_11 (B : World) (hB : Good B) (args : Array Value) (s : St) (K : Kp (Value → St → Prop)) : XCallOK Tryz.prog (eAwake B hB) 11 args s K = parseSp.run args s K := rfl
theorem eAwake_12 (B : World) (hB : Good B) (args : Array Value) (s : St) (K : Kp (Value → St → Prop)) : XCallOK Tryz.prog (eAwake B hB) 12 args s K = lineSp.run args s K := rfl
theorem eAwake_8 (B : World) (hB : Good B) (args : Array Value) (s : St) (K : Kp (Value → St → Prop)) : XCallOK Tryz.prog (eAwake B hB) 8 args s K = treadSp.run args s K := rfl
theorem eAwake_13 (B : World) (hB : Good B) (args : Array Value) (s : St) (K : Kp (Value → St → Prop)) : XCallOK Tryz.prog (eAwake B hB) 13 args s K = tellSp.run args s K := rfl
theorem app_cons (a : Oper) (l m : List Oper) : (a :: l).append m = a :: l.append m := rfl
theorem app_nil (m : List Oper) : ([] : List Oper).append m = m := rfl
theorem awake_c (B : World) (hB : Good B) (s : St) (R : Value → St → Prop) (h : ∀ n, s.n ≤ n → R (.bool true) (s.more n)) : CallOK Tryz.prog B 5 #[] s R := by
  have hinj := fun a b : Bs => propext (bs_inj a b)
  refine call_of (eAwake B hB) (fun _ => none) mixed Tryz.func5 rfl (by simp [Tryz.ntmps5]) (by kernel_rfl) fun hw => ?_
  simp (maxSteps := 2000000) -dsimp (disch := omega) only [eAwake_11, ↓Tryz.ntmps5, ↓res5, ↓xpre0, xpost0, xpost1, xpost2, xpost3, facts0, facts1, calls0, St.wf.none hw, Nat.add_assoc, ↓reduceIte, Nat.reduceEqDiff, Nat.reduceMul, Nat.reduceAdd, Nat.reduceSub, Nat.reduceLeDiff, Nat.reduceLT, Int.reduceBEq, Int.reduceBNe, Int.reduceEq, Int.reduceNe, Int.reduceLT, Int.reduceLE, Int.reduceToNat, Int.reduceAdd, Int.reduceSub, Int.reduceMul, Int.cast_ofNat_Int]
  refine ⟨sStore, rfl, by decide, fun n1 hn1 => ?_⟩
  simp only [parseV, pStore]
  simp (maxSteps := 2000000) -dsimp (disch := omega) only [OpS.cells, oStore, eAwake_11, ↓Tryz.ntmps5, ↓res5, ↓xpre0, xpost0, xpost1, xpost2, xpost3, facts0, facts1, calls0, St.wf.none hw, Nat.add_assoc, ↓reduceIte, Nat.reduceEqDiff, Nat.reduceMul, Nat.reduceAdd, Nat.reduceSub, Nat.reduceLeDiff, Nat.reduceLT, Int.reduceBEq, Int.reduceBNe, Int.reduceEq, Int.reduceNe, Int.reduceLT, Int.reduceLE, Int.reduceToNat, Int.reduceAdd, Int.reduceSub, Int.reduceMul, Int.cast_ofNat_Int]
  refine ⟨sNew, rfl, by decide, fun n2 hn2 => ?_⟩
  simp only [lay_n] at hn2
  simp only [parseV, pNew]
  simp (maxSteps := 2000000) -dsimp (disch := omega) only [OpS.cells, oNew, eAwake_12, ↓Tryz.ntmps5, ↓res5, ↓xpre0, xpost0, xpost1, xpost2, xpost3, facts0, facts1, calls0, St.wf.none hw, Nat.add_assoc, ↓reduceIte, Nat.reduceEqDiff, Nat.reduceMul, Nat.reduceAdd, Nat.reduceSub, Nat.reduceLeDiff, Nat.reduceLT, Int.reduceBEq, Int.reduceBNe, Int.reduceEq, Int.reduceNe, Int.reduceLT, Int.reduceLE, Int.reduceToNat, Int.reduceAdd, Int.reduceSub, Int.reduceMul, Int.cast_ofNat_Int]
  have hl := parse_some pNew
  refine ⟨oNew, rfl, hl.2, fun n3 hn3 => ?_⟩
  simp only [lay_n] at hn3
  simp only [lineV, hl.1]
  simp (maxSteps := 2000000) -dsimp (disch := omega) only [eAwake_11, ↓Tryz.ntmps5, ↓res5, ↓xpre0, xpost0, xpost1, xpost2, xpost3, facts0, facts1, calls0, St.wf.none hw, Nat.add_assoc, ↓reduceIte, Nat.reduceEqDiff, Nat.reduceMul, Nat.reduceAdd, Nat.reduceSub, Nat.reduceLeDiff, Nat.reduceLT, Int.reduceBEq, Int.reduceBNe, Int.reduceEq, Int.reduceNe, Int.reduceLT, Int.reduceLE, Int.reduceToNat, Int.reduceAdd, Int.reduceSub, Int.reduceMul, Int.cast_ofNat_Int]
  refine ⟨[100, 117, 112], rfl, by decide, fun n4 hn4 => ?_⟩
  simp only [more_n] at hn4
  simp only [parseV, pDup]
  simp (maxSteps := 2000000) -dsimp (disch := omega) only [OpS.cells, OpS.zero, eAwake_11, ↓Tryz.ntmps5, ↓res5, ↓xpre0, xpost0, xpost1, xpost2, xpost3, facts0, facts1, calls0, St.wf.none hw, Nat.add_assoc, ↓reduceIte, Nat.reduceEqDiff, Nat.reduceMul, Nat.reduceAdd, Nat.reduceSub, Nat.reduceLeDiff, Nat.reduceLT, Int.reduceBEq, Int.reduceBNe, Int.reduceEq, Int.reduceNe, Int.reduceLT, Int.reduceLE, Int.reduceToNat, Int.reduceAdd, Int.reduceSub, Int.reduceMul, Int.cast_ofNat_Int]
  refine ⟨[100, 117, 112, 32, 49, 32, 50], rfl, by decide, fun n5 hn5 => ?_⟩
  simp only [lay_n] at hn5
  simp only [parseV, pDup2]
  simp (maxSteps := 2000000) -dsimp (disch := omega) only [OpS.cells, OpS.zero, eAwake_11, ↓Tryz.ntmps5, ↓res5, ↓xpre0, xpost0, xpost1, xpost2, xpost3, facts0, facts1, calls0, St.wf.none hw, Nat.add_assoc, ↓reduceIte, Nat.reduceEqDiff, Nat.reduceMul, Nat.reduceAdd, Nat.reduceSub, Nat.reduceLeDiff, Nat.reduceLT, Int.reduceBEq, Int.reduceBNe, Int.reduceEq, Int.reduceNe, Int.reduceLT, Int.reduceLE, Int.reduceToNat, Int.reduceAdd, Int.reduceSub, Int.reduceMul, Int.cast_ofNat_Int]
  refine ⟨[100, 117, 112, 32, 48, 49], rfl, by decide, fun n6 hn6 => ?_⟩
  simp only [lay_n] at hn6
  simp only [parseV, pDup01]
  simp (maxSteps := 2000000) -dsimp (disch := omega) only [OpS.cells, OpS.zero, eAwake_8, ↓Tryz.ntmps5, ↓res5, ↓xpre0, xpost0, xpost1, xpost2, xpost3, facts0, facts1, calls0, St.wf.none hw, Nat.add_assoc, ↓reduceIte, Nat.reduceEqDiff, Nat.reduceMul, Nat.reduceAdd, Nat.reduceSub, Nat.reduceLeDiff, Nat.reduceLT, Int.reduceBEq, Int.reduceBNe, Int.reduceEq, Int.reduceNe, Int.reduceLT, Int.reduceLE, Int.reduceToNat, Int.reduceAdd, Int.reduceSub, Int.reduceMul, Int.cast_ofNat_Int]
  refine ⟨sRead, rfl, by decide, fun v s7 hg7 hv => ?_⟩
  rw [pRead] at hv
  simp only [pRead]
  obtain ⟨base, c, rfl⟩ := hv.slice
  have hs1 : s7.h n1 = some (.cells #[.int .i64 3, .int .i64 3, .int .i64 0, .int .i64 0, .int .i64 2, .int .i64 7, .int .u64 0, .int .i64 0, .int .i64 0, .int .i64 0, .int .u8 0] 35) := by
    rw [hg7.h]
    simp (maxSteps := 2000000) -dsimp (disch := omega) only [↓xpre0, xpost0, xpost1, xpost2, xpost3, facts0, facts1, calls0, St.wf.none hw, Nat.add_assoc, ↓reduceIte, Nat.reduceEqDiff, Nat.reduceMul, Nat.reduceAdd, Nat.reduceSub, Nat.reduceLeDiff, Nat.reduceLT, Int.reduceBEq, Int.reduceBNe, Int.reduceEq, Int.reduceNe, Int.reduceLT, Int.reduceLE, Int.reduceToNat, Int.reduceAdd, Int.reduceSub, Int.reduceMul, Int.cast_ofNat_Int]
  have hs2 : s7.h n2 = some (.cells #[.int .i64 1, .int .i64 0, .int .i64 0, .int .i64 0, .int .i64 0, .int .i64 0, .int .u64 0, .int .i64 1, .int .i64 2, .int .i64 0, .int .u8 5] 35) := by
    rw [hg7.h]
    simp (maxSteps := 2000000) -dsimp (disch := omega) only [↓xpre0, xpost0, xpost1, xpost2, xpost3, facts0, facts1, calls0, St.wf.none hw, Nat.add_assoc, ↓reduceIte, Nat.reduceEqDiff, Nat.reduceMul, Nat.reduceAdd, Nat.reduceSub, Nat.reduceLeDiff, Nat.reduceLT, Int.reduceBEq, Int.reduceBNe, Int.reduceEq, Int.reduceNe, Int.reduceLT, Int.reduceLE, Int.reduceToNat, Int.reduceAdd, Int.reduceSub, Int.reduceMul, Int.cast_ofNat_Int]
  have g7 := hg7.n
  simp only [lay_n] at g7
  have k7 : Ext s s7 := by
    refine Ext.trans ?_ hg7.ext
    (repeat (first | with_reducible exact Ext.refl _ | with_reducible assumption | refine Ext.lay ?_ _ _ _ (by omega) (by first | omega | (simp only [lay_n, upd_n, more_n, froz_n]; omega)) | refine Ext.upd ?_ _ _ (by omega) | refine Ext.more ?_ _ (by first | omega | (simp only [lay_n, upd_n, more_n, froz_n]; omega)) | refine Ext.frz ?_ hw _ _ _ (by omega) (by first | omega | (simp only [lay_n, upd_n, more_n, froz_n]; omega))))
  simp (maxSteps := 2000000) -dsimp (disch := omega) only [↓app_cons, ↓app_nil, hs1, hs2, hinj, sNew, eq_self_iff_true, decide_true, List.length_nil, eAwake_13, ↓Tryz.ntmps5, ↓res5, ↓xpre0, xpost0, xpost1, xpost2, xpost3, facts0, facts1, calls0, St.wf.none hw, Nat.add_assoc, ↓reduceIte, Nat.reduceEqDiff, Nat.reduceMul, Nat.reduceAdd, Nat.reduceSub, Nat.reduceLeDiff, Nat.reduceLT, Int.reduceBEq, Int.reduceBNe, Int.reduceEq, Int.reduceNe, Int.reduceLT, Int.reduceLE, Int.reduceToNat, Int.reduceAdd, Int.reduceSub, Int.reduceMul, Int.cast_ofNat_Int]
  refine ⟨⟨6, 0, 0, 0, 0, 0, 0, 0, 0, 0, 0⟩, .inl ⟨rfl, rfl, fun n8 hn8 => ?_⟩⟩
  simp (maxSteps := 2000000) -dsimp (disch := omega) only [↓app_cons, ↓app_nil, hs1, hs2, hinj, eq_self_iff_true, decide_true, eAwake_13, ↓Tryz.ntmps5, ↓res5, ↓xpre0, xpost0, xpost1, xpost2, xpost3, facts0, facts1, calls0, St.wf.none hw, Nat.add_assoc, ↓reduceIte, Nat.reduceEqDiff, Nat.reduceMul, Nat.reduceAdd, Nat.reduceSub, Nat.reduceLeDiff, Nat.reduceLT, Int.reduceBEq, Int.reduceBNe, Int.reduceEq, Int.reduceNe, Int.reduceLT, Int.reduceLE, Int.reduceToNat, Int.reduceAdd, Int.reduceSub, Int.reduceMul, Int.cast_ofNat_Int]
  refine ⟨oStore, .inr ⟨rfl, rfl, fun n9 hn9 => ?_⟩⟩
  simp (maxSteps := 2000000) -dsimp (disch := omega) only [↓app_cons, ↓app_nil, hs1, hs2, hinj, eq_self_iff_true, decide_true, ↓Tryz.ntmps5, ↓res5, ↓xpre0, xpost0, xpost1, xpost2, xpost3, facts0, facts1, calls0, St.wf.none hw, Nat.add_assoc, ↓reduceIte, Nat.reduceEqDiff, Nat.reduceMul, Nat.reduceAdd, Nat.reduceSub, Nat.reduceLeDiff, Nat.reduceLT, Int.reduceBEq, Int.reduceBNe, Int.reduceEq, Int.reduceNe, Int.reduceLT, Int.reduceLE, Int.reduceToNat, Int.reduceAdd, Int.reduceSub, Int.reduceMul, Int.cast_ofNat_Int]
  refine drop_ext hw ?_ h
  simp only [more_n] at hn9
  (repeat (first | with_reducible exact Ext.refl _ | with_reducible assumption | refine Ext.lay ?_ _ _ _ (by omega) (by first | omega | (simp only [lay_n, upd_n, more_n, froz_n]; omega)) | refine Ext.upd ?_ _ _ (by omega) | refine Ext.more ?_ _ (by first | omega | (simp only [lay_n, upd_n, more_n, froz_n]; omega)) | refine Ext.frz ?_ hw _ _ _ (by omega) (by first | omega | (simp only [lay_n, upd_n, more_n, froz_n]; omega))))
end Go.Proofs.TX
