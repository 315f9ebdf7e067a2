/- The document's layer 34: val. -/
import Derived.Test.YtfndoonmgilklaaGreatDoorXR4
set_option linter.unusedSimpArgs false
set_option linter.unusedVariables false
set_option maxRecDepth 100000
set_option maxHeartbeats 4000000
namespace Go.Proofs.TX
open Go
def num41Sp : Spec where
  run args s K := ∃ l : Bs, args = #[str l] ∧ l.length ≤ 281474976710656 ∧ ∀ n x, s.n ≤ n → NumOut l x → K.K (.tuple #[.int .i64 x, .bool (numberS l).isSome]) (s.more n)
  mono args s K K' h := fun ⟨l, h1, h2, h3⟩ => ⟨l, h1, h2, fun n x hn hx => h _ _ (h3 n x hn hx)⟩
theorem num41_c (B : World) : ∀ args s K, num41Sp.run args s K → CallOK Tryz.prog B 41 args s K.K := by
  rintro args s K ⟨l, rfl, h1, h2⟩
  exact number41_c B l h1 s _ h2
noncomputable def eVal34 (B : World) : Env Tryz.prog := ((Env.base Tryz.prog B).ext 41 num41Sp (num41_c B)).ext 33 (.fn mayF) (may_f B)
theorem eVal34_41 (B : World) (args : Array Value) (s : St) (K : Kp (Value → St → Prop)) : XCallOK Tryz.prog (eVal34 B) 41 args s K = num41Sp.run args s K := rfl
theorem eVal34_33 (B : World) (k x : Int) (s : St) (K : Kp (Value → St → Prop)) : XCallOK Tryz.prog (eVal34 B) 33 #[.agg #[.int .i64 k, .int .i64 x]] s K = XMore s (.bool (mayV k x)) K := rfl
def pl43 : Nat → Option DPlan := fun i => if i = 9 then some (tks [0, 1, 2, 3] (.one 4 [0] (tks [5] (.one 6 [5] (tks [7] .done))))) else none
theorem pl43_9 : pl43 9 = some (tks [0, 1, 2, 3] (.one 4 [0] (tks [5] (.one 6 [5] (tks [7] .done))))) := rfl
theorem val43_c (B : World) (l : Bs) (hl : l.length ≤ 281474976710656) (s : St) (R : Value → St → Prop)
    (h : ∀ n k x, s.n ≤ n → (∀ p, valR l = some p → p = (k, x)) → R (.tuple #[.agg #[.int .i64 k, .int .i64 x], .bool (valR l).isSome]) (s.more n)) : CallOK Tryz.prog B 43 #[str l] s R := by
  have hinj := fun a b : Bs => propext (bs_inj a b)
  have fin : ∀ {t : St} {k x : Int} {b : Bool}, s.wf → Ext s t → (valR l).isSome = b → (∀ p, valR l = some p → p = (k, x)) → Drop R (.tuple #[.agg #[.int .i64 k, .int .i64 x], .bool b]) t := by
    intro t k x b hw he hb hp
    subst hb
    exact drop_ext hw he fun n hn => h n k x hn hp
  by_cases hnil : l = [110, 105, 108]
  · subst hnil
    refine call_of (eVal34 B) pl43 mixed Tryz.func43 rfl (by simp [Tryz.ntmps43]) (by kernel_rfl) fun hw => ?_
    simp (maxSteps := 2000000) -dsimp (disch := omega) only [hinj, eq_self_iff_true, decide_true, ↓Tryz.ntmps43, ↓res43, ↓xpre0, xpost0, xpost1, xpost2, xpost3, facts0, facts1, calls0, St.wf.none hw, Nat.add_assoc, ↓reduceIte, Nat.reduceEqDiff, Nat.reduceMul, Nat.reduceAdd, Nat.reduceSub, Nat.reduceLeDiff, Nat.reduceLT, Int.reduceBEq, Int.reduceBNe, Int.reduceEq, Int.reduceNe, Int.reduceLT, Int.reduceLE, Int.reduceToNat, Int.reduceAdd, Int.reduceSub, Int.reduceMul, Int.cast_ofNat_Int]
    refine fin hw ?_ rfl ?_
    · (repeat (first | with_reducible exact Ext.refl _ | with_reducible assumption | refine Ext.lay ?_ _ _ _ (by omega) (by first | omega | (simp only [lay_n, upd_n, more_n, froz_n]; omega)) | refine Ext.upd ?_ _ _ (by omega) | refine Ext.more ?_ _ (by first | omega | (simp only [lay_n, upd_n, more_n, froz_n]; omega)) | refine Ext.frz ?_ hw _ _ _ (by omega) (by first | omega | (simp only [lay_n, upd_n, more_n, froz_n]; omega))))
    · intro p hp
      have : valR [110, 105, 108] = some (0, 0) := rfl
      rw [this] at hp; cases hp; rfl
  · have core : ∀ (at' : Bool) (d : Bs), Lib.hasPrefix l [64] = at' → (if at' = true then Lib.trimPrefix l [64] else l) = d → d.length ≤ 281474976710656 ∧ valR l = (numberS d).bind fun x => if mayV (if at' = true then 2 else 1) x = true then some (if at' = true then 2 else 1, x) else none := by
      rintro at' d rfl rfl
      refine ⟨?_, ?_⟩
      · split
        · exact Nat.le_trans (trimPrefix_length _ _) hl
        · exact hl
      · unfold valR; rw [if_neg hnil]
    have out : ∀ (k x : Int) (d : Bs), valR l = ((numberS d).bind fun x => if mayV k x = true then some (k, x) else none) → NumOut d x → (valR l).isSome = ((numberS d).isSome && mayV k x) ∧ ∀ p, valR l = some p → p = (k, x) := by
      intro k x d e hx
      cases hn : numberS d with
      | none => rw [e, hn]; exact ⟨rfl, fun p hp => by cases hp⟩
      | some v =>
        have := hx.2 v hn
        subst this
        rw [e, hn]
        cases hm : mayV k x with
        | true => simp only [Option.bind_some, hm, if_true, Option.isSome_some, Bool.and_true, true_and]; intro p hp; cases hp; rfl
        | false => simp [hm]
    cases l with
    | nil =>
      obtain ⟨_, e⟩ := core false [] rfl rfl
      refine call_of (eVal34 B) pl43 mixed Tryz.func43 rfl (by simp [Tryz.ntmps43]) (by kernel_rfl) fun hw => ?_
      simp (maxSteps := 2000000) -dsimp (disch := omega) only [pl43_9, hinj, hnil, eq_self_iff_true, decide_true, decide_false, Int.lt_irrefl, eVal34_41, ↓Tryz.ntmps43, ↓res43, ↓xpre0, xpost0, xpost1, xpost2, xpost3, facts0, facts1, calls0, St.wf.none hw, Nat.add_assoc, ↓reduceIte, Nat.reduceEqDiff, Nat.reduceMul, Nat.reduceAdd, Nat.reduceSub, Nat.reduceLeDiff, Nat.reduceLT, Int.reduceBEq, Int.reduceBNe, Int.reduceEq, Int.reduceNe, Int.reduceLT, Int.reduceLE, Int.reduceToNat, Int.reduceAdd, Int.reduceSub, Int.reduceMul, Int.cast_ofNat_Int]
      refine ⟨[], rfl, by simp, fun n x hn hx => ?_⟩
      simp only [lay_n] at hn
      have hz : numberS ([] : Bs) = none := rfl
      obtain ⟨o1, o2⟩ := out 1 x [] e hx
      simp (maxSteps := 2000000) -dsimp (disch := omega) only [pl43_9, hz, Option.isSome_none, ↓Tryz.ntmps43, ↓res43, ↓xpre0, xpost0, xpost1, xpost2, xpost3, facts0, facts1, calls0, St.wf.none hw, Nat.add_assoc, ↓reduceIte, Nat.reduceEqDiff, Nat.reduceMul, Nat.reduceAdd, Nat.reduceSub, Nat.reduceLeDiff, Nat.reduceLT, Int.reduceBEq, Int.reduceBNe, Int.reduceEq, Int.reduceNe, Int.reduceLT, Int.reduceLE, Int.reduceToNat, Int.reduceAdd, Int.reduceSub, Int.reduceMul, Int.cast_ofNat_Int]
      refine fin hw ?_ (by rw [o1, hz]; rfl) o2
      (repeat (first | with_reducible exact Ext.refl _ | with_reducible assumption | refine Ext.lay ?_ _ _ _ (by omega) (by first | omega | (simp only [lay_n, upd_n, more_n, froz_n]; omega)) | refine Ext.upd ?_ _ _ (by omega) | refine Ext.more ?_ _ (by first | omega | (simp only [lay_n, upd_n, more_n, froz_n]; omega)) | refine Ext.frz ?_ hw _ _ _ (by omega) (by first | omega | (simp only [lay_n, upd_n, more_n, froz_n]; omega))))
    | cons q r =>
      have hg : (q :: r).toArray.getD 0 0 = q := rfl
      have h0p : (0 : Int) < ((r.length + 1 : Nat) : Int) := by omega
      have h1p : (1 : Int) ≤ ((r.length + 1 : Nat) : Int) := by omega
      have hpre := hasP q r
      by_cases hq : q = 64
      · subst hq
        have hq64 : ((64 : UInt8).toNat : Int) = 64 := rfl
        have hte := tail_extract 64 r
        obtain ⟨hd, e⟩ := core true r (by rw [hpre]; rfl) (by rw [if_pos rfl, trimP])
        refine call_of (eVal34 B) pl43 mixed Tryz.func43 rfl (by simp [Tryz.ntmps43]) (by kernel_rfl) fun hw => ?_
        simp (maxSteps := 2000000) -dsimp (disch := omega) only [pl43_9, hinj, hnil, hg, h0p, h1p, hq64, hte, decide_true, decide_false, Int.toNat_natCast, eVal34_41, ↓Tryz.ntmps43, ↓res43, ↓xpre0, xpost0, xpost1, xpost2, xpost3, facts0, facts1, calls0, St.wf.none hw, Nat.add_assoc, ↓reduceIte, Nat.reduceEqDiff, Nat.reduceMul, Nat.reduceAdd, Nat.reduceSub, Nat.reduceLeDiff, Nat.reduceLT, Int.reduceBEq, Int.reduceBNe, Int.reduceEq, Int.reduceNe, Int.reduceLT, Int.reduceLE, Int.reduceToNat, Int.reduceAdd, Int.reduceSub, Int.reduceMul, Int.cast_ofNat_Int]
        refine ⟨r, rfl, hd, fun n x hn hx => ?_⟩
        simp only [lay_n] at hn
        obtain ⟨o1, o2⟩ := out 2 x r (by simpa using e) hx
        cases hns : (numberS r).isSome with
        | false =>
          simp (maxSteps := 2000000) -dsimp (disch := omega) only [pl43_9, hns, ↓Tryz.ntmps43, ↓res43, ↓xpre0, xpost0, xpost1, xpost2, xpost3, facts0, facts1, calls0, St.wf.none hw, Nat.add_assoc, ↓reduceIte, Nat.reduceEqDiff, Nat.reduceMul, Nat.reduceAdd, Nat.reduceSub, Nat.reduceLeDiff, Nat.reduceLT, Int.reduceBEq, Int.reduceBNe, Int.reduceEq, Int.reduceNe, Int.reduceLT, Int.reduceLE, Int.reduceToNat, Int.reduceAdd, Int.reduceSub, Int.reduceMul, Int.cast_ofNat_Int]
          refine fin hw ?_ (by rw [o1, hns]; rfl) o2
          (repeat (first | with_reducible exact Ext.refl _ | with_reducible assumption | refine Ext.lay ?_ _ _ _ (by omega) (by first | omega | (simp only [lay_n, upd_n, more_n, froz_n]; omega)) | refine Ext.upd ?_ _ _ (by omega) | refine Ext.more ?_ _ (by first | omega | (simp only [lay_n, upd_n, more_n, froz_n]; omega)) | refine Ext.frz ?_ hw _ _ _ (by omega) (by first | omega | (simp only [lay_n, upd_n, more_n, froz_n]; omega))))
        | true =>
          simp (maxSteps := 2000000) -dsimp (disch := omega) only [pl43_9, hns, eVal34_33, ↓Tryz.ntmps43, ↓res43, ↓xpre0, xpost0, xpost1, xpost2, xpost3, facts0, facts1, calls0, St.wf.none hw, Nat.add_assoc, ↓reduceIte, Nat.reduceEqDiff, Nat.reduceMul, Nat.reduceAdd, Nat.reduceSub, Nat.reduceLeDiff, Nat.reduceLT, Int.reduceBEq, Int.reduceBNe, Int.reduceEq, Int.reduceNe, Int.reduceLT, Int.reduceLE, Int.reduceToNat, Int.reduceAdd, Int.reduceSub, Int.reduceMul, Int.cast_ofNat_Int]
          refine XMore_intro fun k => ?_
          simp (maxSteps := 2000000) -dsimp (disch := omega) only [pl43_9, hns, eVal34_33, ↓Tryz.ntmps43, ↓res43, ↓xpre0, xpost0, xpost1, xpost2, xpost3, facts0, facts1, calls0, St.wf.none hw, Nat.add_assoc, ↓reduceIte, Nat.reduceEqDiff, Nat.reduceMul, Nat.reduceAdd, Nat.reduceSub, Nat.reduceLeDiff, Nat.reduceLT, Int.reduceBEq, Int.reduceBNe, Int.reduceEq, Int.reduceNe, Int.reduceLT, Int.reduceLE, Int.reduceToNat, Int.reduceAdd, Int.reduceSub, Int.reduceMul, Int.cast_ofNat_Int]
          refine fin hw ?_ (by rw [o1, hns]; rfl) o2
          (repeat (first | with_reducible exact Ext.refl _ | with_reducible assumption | refine Ext.lay ?_ _ _ _ (by omega) (by first | omega | (simp only [lay_n, upd_n, more_n, froz_n]; omega)) | refine Ext.upd ?_ _ _ (by omega) | refine Ext.more ?_ _ (by first | omega | (simp only [lay_n, upd_n, more_n, froz_n]; omega)) | refine Ext.frz ?_ hw _ _ _ (by omega) (by first | omega | (simp only [lay_n, upd_n, more_n, froz_n]; omega))))
      · have hq64 : ¬ ((q.toNat : Int) = 64) := by
          intro e
          have : q.toNat = (64 : UInt8).toNat := by have : (64 : UInt8).toNat = 64 := rfl; omega
          exact hq (UInt8.toNat_inj.1 this)
        obtain ⟨hd, e⟩ := core false (q :: r) (by rw [hpre]; simpa using hq) rfl
        refine call_of (eVal34 B) pl43 mixed Tryz.func43 rfl (by simp [Tryz.ntmps43]) (by kernel_rfl) fun hw => ?_
        simp (maxSteps := 2000000) -dsimp (disch := omega) only [pl43_9, hinj, hnil, hg, h0p, h1p, hq64, decide_true, decide_false, Int.toNat_natCast, eVal34_41, ↓Tryz.ntmps43, ↓res43, ↓xpre0, xpost0, xpost1, xpost2, xpost3, facts0, facts1, calls0, St.wf.none hw, Nat.add_assoc, ↓reduceIte, Nat.reduceEqDiff, Nat.reduceMul, Nat.reduceAdd, Nat.reduceSub, Nat.reduceLeDiff, Nat.reduceLT, Int.reduceBEq, Int.reduceBNe, Int.reduceEq, Int.reduceNe, Int.reduceLT, Int.reduceLE, Int.reduceToNat, Int.reduceAdd, Int.reduceSub, Int.reduceMul, Int.cast_ofNat_Int]
        refine ⟨q :: r, rfl, hd, fun n x hn hx => ?_⟩
        simp only [lay_n] at hn
        obtain ⟨o1, o2⟩ := out 1 x (q :: r) (by simpa using e) hx
        cases hns : (numberS (q :: r)).isSome with
        | false =>
          simp (maxSteps := 2000000) -dsimp (disch := omega) only [pl43_9, hns, ↓Tryz.ntmps43, ↓res43, ↓xpre0, xpost0, xpost1, xpost2, xpost3, facts0, facts1, calls0, St.wf.none hw, Nat.add_assoc, ↓reduceIte, Nat.reduceEqDiff, Nat.reduceMul, Nat.reduceAdd, Nat.reduceSub, Nat.reduceLeDiff, Nat.reduceLT, Int.reduceBEq, Int.reduceBNe, Int.reduceEq, Int.reduceNe, Int.reduceLT, Int.reduceLE, Int.reduceToNat, Int.reduceAdd, Int.reduceSub, Int.reduceMul, Int.cast_ofNat_Int]
          refine fin hw ?_ (by rw [o1, hns]; rfl) o2
          (repeat (first | with_reducible exact Ext.refl _ | with_reducible assumption | refine Ext.lay ?_ _ _ _ (by omega) (by first | omega | (simp only [lay_n, upd_n, more_n, froz_n]; omega)) | refine Ext.upd ?_ _ _ (by omega) | refine Ext.more ?_ _ (by first | omega | (simp only [lay_n, upd_n, more_n, froz_n]; omega)) | refine Ext.frz ?_ hw _ _ _ (by omega) (by first | omega | (simp only [lay_n, upd_n, more_n, froz_n]; omega))))
        | true =>
          simp (maxSteps := 2000000) -dsimp (disch := omega) only [pl43_9, hns, eVal34_33, ↓Tryz.ntmps43, ↓res43, ↓xpre0, xpost0, xpost1, xpost2, xpost3, facts0, facts1, calls0, St.wf.none hw, Nat.add_assoc, ↓reduceIte, Nat.reduceEqDiff, Nat.reduceMul, Nat.reduceAdd, Nat.reduceSub, Nat.reduceLeDiff, Nat.reduceLT, Int.reduceBEq, Int.reduceBNe, Int.reduceEq, Int.reduceNe, Int.reduceLT, Int.reduceLE, Int.reduceToNat, Int.reduceAdd, Int.reduceSub, Int.reduceMul, Int.cast_ofNat_Int]
          refine XMore_intro fun k => ?_
          simp (maxSteps := 2000000) -dsimp (disch := omega) only [pl43_9, hns, eVal34_33, ↓Tryz.ntmps43, ↓res43, ↓xpre0, xpost0, xpost1, xpost2, xpost3, facts0, facts1, calls0, St.wf.none hw, Nat.add_assoc, ↓reduceIte, Nat.reduceEqDiff, Nat.reduceMul, Nat.reduceAdd, Nat.reduceSub, Nat.reduceLeDiff, Nat.reduceLT, Int.reduceBEq, Int.reduceBNe, Int.reduceEq, Int.reduceNe, Int.reduceLT, Int.reduceLE, Int.reduceToNat, Int.reduceAdd, Int.reduceSub, Int.reduceMul, Int.cast_ofNat_Int]
          refine fin hw ?_ (by rw [o1, hns]; rfl) o2
          (repeat (first | with_reducible exact Ext.refl _ | with_reducible assumption | refine Ext.lay ?_ _ _ _ (by omega) (by first | omega | (simp only [lay_n, upd_n, more_n, froz_n]; omega)) | refine Ext.upd ?_ _ _ (by omega) | refine Ext.more ?_ _ (by first | omega | (simp only [lay_n, upd_n, more_n, froz_n]; omega)) | refine Ext.frz ?_ hw _ _ _ (by omega) (by first | omega | (simp only [lay_n, upd_n, more_n, froz_n]; omega))))
end Go.Proofs.TX
