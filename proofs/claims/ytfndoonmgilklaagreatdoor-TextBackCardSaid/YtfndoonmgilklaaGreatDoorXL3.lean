/- The laws: TextScripts, TextBack. -/
import Derived.Test.YtfndoonmgilklaaGreatDoorXL2
set_option linter.unusedSimpArgs false
set_option linter.unusedVariables false
set_option maxRecDepth 100000
set_option maxHeartbeats 4000000
namespace Go.Proofs.TX
open Go
theorem OpsAt.grow {s t : St} {v : Value} {l : List OpS} (h : OpsAt s v l) (he : Grow s t) : OpsAt t v l := by
  rcases h with h | ⟨b, off, c, C, T, fz, rfl, h1, h2, h3⟩
  · exact .inl h
  · exact .inr ⟨b, off, c, C, T, fz, rfl, by rw [he.h]; exact h1, he.σ _ _ h2, h3⟩
def awakeSp : Spec where
  run args s K := args = #[] ∧ ∀ n, s.n ≤ n → K.K (.bool true) (s.more n)
  mono args s K K' h := fun ⟨h1, h2⟩ => ⟨h1, fun n hn => h _ _ (h2 n hn)⟩
theorem awake_s (B : World) (hB : Good B) : ∀ args s K, awakeSp.run args s K → CallOK Tryz.prog B 5 args s K.K := by
  rintro args s K ⟨rfl, h⟩
  exact awake_c B hB s _ h
def scriptSp : Spec where
  run args s K := ∃ (l : List OpS) (v : Value), args = #[v] ∧ l.length ≤ 1000000 ∧ (∀ o ∈ l, o.ok) ∧ OpsAt s v l ∧ ∀ n, s.n ≤ n → K.K (scriptV l) (s.more n)
  mono args s K K' h := fun ⟨l, v, h1, h2, h3, h4, h5⟩ => ⟨l, v, h1, h2, h3, h4, fun n hn => h _ _ (h5 n hn)⟩
theorem script_s (B : World) (hB : Good B) : ∀ args s K, scriptSp.run args s K → CallOK Tryz.prog B 6 args s K.K := by
  rintro args s K ⟨l, v, rfl, h1, h2, h3, h4⟩
  exact script_c' B hB l h1 h2 v s _ h3 h4
theorem script34_s (B : World) : ∀ args s K, scriptSp.run args s K → CallOK Tryz.prog B 7 args s K.K := by
  rintro args s K ⟨l, v, rfl, h1, h2, h3, h4⟩
  exact script34_c' B l h1 h2 v s _ h3 h4
def sameSp : Spec where
  run args s K := ∃ (l : List OpS) (v w : Value), args = #[v, w] ∧ l.length ≤ 1000000 ∧ OpsAt s v l ∧ OpsAt s w l ∧ ∀ n, s.n ≤ n → K.K (.bool true) (s.more n)
  mono args s K K' h := fun ⟨l, v, w, h1, h2, h3, h4, h5⟩ => ⟨l, v, w, h1, h2, h3, h4, fun n hn => h _ _ (h5 n hn)⟩
theorem same_s (B : World) : ∀ args s K, sameSp.run args s K → CallOK Tryz.prog B 10 args s K.K := by
  rintro args s K ⟨l, v, w, rfl, h1, h2, h3, h4⟩
  exact same_c B l h1 v w s _ h2 h3 h4
theorem readGo_bound : ∀ (ws : List Bs) (i : Nat) (out : List OpS), out.length ≤ 2000 → (readGo i out ws).1.length ≤ 2000
  | [], i, out, h => h
  | w :: ws, i, out, h => by
    rw [readGo]
    split
    · exact readGo_bound ws _ _ h
    · split
      · simp
      · split
        · simp
        · exact readGo_bound ws _ _ (by simp; omega)
theorem readTS_bound (l : Bs) : (readTS l).1.length ≤ 2000 := by
  unfold readTS
  split
  · simp
  · exact readGo_bound _ _ _ (by simp)
noncomputable def eLaw (B : World) (hB : Good B) : Env Tryz.prog := ((((((((Env.base Tryz.prog B).ext 5 awakeSp (awake_s B hB)).ext 6 scriptSp (script_s B hB)).ext 7 scriptSp (script34_s B)).ext 8 treadSp (tread_c B hB)).ext 9 treadSp (read34_c B)).ext 10 sameSp (same_s B)).ext 11 parseSp (parse_c B hB)).ext 12 lineSp (line_c B hB)
theorem eLaw_5 (B : World) (hB : Good B) (s : St) (K : Kp (Value → St → Prop)) : XCallOK Tryz.prog (eLaw B hB) 5 #[] s K = XMore s (.bool true) K := by
  show awakeSp.run #[] s K = _
  simp only [awakeSp, XMore, true_and, eq_iff_iff]
  constructor
  · intro h k; exact h _ (by omega)
  · intro h n hn; obtain ⟨k, rfl⟩ : ∃ k, n = s.n + k := ⟨n - s.n, by omega⟩; exact h k
theorem eLaw_6 (B : World) (hB : Good B) (args : Array Value) (s : St) (K : Kp (Value → St → Prop)) : XCallOK Tryz.prog (eLaw B hB) 6 args s K = scriptSp.run args s K := rfl
theorem eLaw_7 (B : World) (hB : Good B) (args : Array Value) (s : St) (K : Kp (Value → St → Prop)) : XCallOK Tryz.prog (eLaw B hB) 7 args s K = scriptSp.run args s K := rfl
theorem eLaw_8 (B : World) (hB : Good B) (args : Array Value) (s : St) (K : Kp (Value → St → Prop)) : XCallOK Tryz.prog (eLaw B hB) 8 args s K = treadSp.run args s K := rfl
theorem eLaw_9 (B : World) (hB : Good B) (args : Array Value) (s : St) (K : Kp (Value → St → Prop)) : XCallOK Tryz.prog (eLaw B hB) 9 args s K = treadSp.run args s K := rfl
theorem eLaw_10 (B : World) (hB : Good B) (args : Array Value) (s : St) (K : Kp (Value → St → Prop)) : XCallOK Tryz.prog (eLaw B hB) 10 args s K = sameSp.run args s K := rfl
theorem eLaw_11 (B : World) (hB : Good B) (args : Array Value) (s : St) (K : Kp (Value → St → Prop)) : XCallOK Tryz.prog (eLaw B hB) 11 args s K = parseSp.run args s K := rfl
theorem eLaw_12 (B : World) (hB : Good B) (args : Array Value) (s : St) (K : Kp (Value → St → Prop)) : XCallOK Tryz.prog (eLaw B hB) 12 args s K = lineSp.run args s K := rfl
theorem scripts_c (B : World) (hB : Good B) (l : List OpS) (hok : ∀ o ∈ l, o.ok) (v : Value) (b : Bs) (s : St) (R : Value → St → Prop) (hv : OpsAt s v l) (h : ∀ s', Grow s s' → R (.bool true) s') : CallOK Tryz.prog B 3 #[v, str b] s R := by
  have hinj := fun a b : Bs => propext (bs_inj a b)
  obtain ⟨base, c, rfl⟩ := hv.slice
  have aw : ∀ {t : St}, s.wf → Ext s t → Drop R (.bool true) t := fun hw he => drop_ext hw he fun n hn => h _ (Grow.more s hn)
  by_cases h1 : (l.length : Int) > 100
  · refine call_of (eLaw B hB) (fun _ => none) mixed Tryz.func3 rfl (by simp [Tryz.ntmps3]) (by kernel_rfl) fun hw => ?_
    simp (maxSteps := 2000000) -dsimp (disch := omega) only [h1, decide_true, eLaw_5, ↓Tryz.ntmps3, ↓res3, ↓xpre0, xpost0, xpost1, xpost2, xpost3, facts0, facts1, calls0, St.wf.none hw, Nat.add_assoc, ↓reduceIte, Nat.reduceEqDiff, Nat.reduceMul, Nat.reduceAdd, Nat.reduceSub, Nat.reduceLeDiff, Nat.reduceLT, Int.reduceBEq, Int.reduceBNe, Int.reduceEq, Int.reduceNe, Int.reduceLT, Int.reduceLE, Int.reduceToNat, Int.reduceAdd, Int.reduceSub, Int.reduceMul, Int.cast_ofNat_Int]
    refine XMore_intro fun k => ?_
    simp (maxSteps := 2000000) -dsimp (disch := omega) only [↓Tryz.ntmps3, ↓res3, ↓xpre0, xpost0, xpost1, xpost2, xpost3, facts0, facts1, calls0, St.wf.none hw, Nat.add_assoc, ↓reduceIte, Nat.reduceEqDiff, Nat.reduceMul, Nat.reduceAdd, Nat.reduceSub, Nat.reduceLeDiff, Nat.reduceLT, Int.reduceBEq, Int.reduceBNe, Int.reduceEq, Int.reduceNe, Int.reduceLT, Int.reduceLE, Int.reduceToNat, Int.reduceAdd, Int.reduceSub, Int.reduceMul, Int.cast_ofNat_Int]
    refine aw hw ?_
    (repeat (first | with_reducible exact Ext.refl _ | with_reducible assumption | refine Ext.lay ?_ _ _ _ (by omega) (by first | omega | (simp only [lay_n, upd_n, more_n, froz_n]; omega)) | refine Ext.upd ?_ _ _ (by omega) | refine Ext.more ?_ _ (by first | omega | (simp only [lay_n, upd_n, more_n, froz_n]; omega)) | refine Ext.frz ?_ hw _ _ _ (by omega) (by first | omega | (simp only [lay_n, upd_n, more_n, froz_n]; omega))))
  · by_cases h2 : (b.length : Int) > 20001
    · refine call_of (eLaw B hB) (fun _ => none) mixed Tryz.func3 rfl (by simp [Tryz.ntmps3]) (by kernel_rfl) fun hw => ?_
      simp (maxSteps := 2000000) -dsimp (disch := omega) only [h1, h2, decide_true, decide_false, eLaw_5, ↓Tryz.ntmps3, ↓res3, ↓xpre0, xpost0, xpost1, xpost2, xpost3, facts0, facts1, calls0, St.wf.none hw, Nat.add_assoc, ↓reduceIte, Nat.reduceEqDiff, Nat.reduceMul, Nat.reduceAdd, Nat.reduceSub, Nat.reduceLeDiff, Nat.reduceLT, Int.reduceBEq, Int.reduceBNe, Int.reduceEq, Int.reduceNe, Int.reduceLT, Int.reduceLE, Int.reduceToNat, Int.reduceAdd, Int.reduceSub, Int.reduceMul, Int.cast_ofNat_Int]
      refine XMore_intro fun k => ?_
      simp (maxSteps := 2000000) -dsimp (disch := omega) only [↓Tryz.ntmps3, ↓res3, ↓xpre0, xpost0, xpost1, xpost2, xpost3, facts0, facts1, calls0, St.wf.none hw, Nat.add_assoc, ↓reduceIte, Nat.reduceEqDiff, Nat.reduceMul, Nat.reduceAdd, Nat.reduceSub, Nat.reduceLeDiff, Nat.reduceLT, Int.reduceBEq, Int.reduceBNe, Int.reduceEq, Int.reduceNe, Int.reduceLT, Int.reduceLE, Int.reduceToNat, Int.reduceAdd, Int.reduceSub, Int.reduceMul, Int.cast_ofNat_Int]
      refine aw hw ?_
      (repeat (first | with_reducible exact Ext.refl _ | with_reducible assumption | refine Ext.lay ?_ _ _ _ (by omega) (by first | omega | (simp only [lay_n, upd_n, more_n, froz_n]; omega)) | refine Ext.upd ?_ _ _ (by omega) | refine Ext.more ?_ _ (by first | omega | (simp only [lay_n, upd_n, more_n, froz_n]; omega)) | refine Ext.frz ?_ hw _ _ _ (by omega) (by first | omega | (simp only [lay_n, upd_n, more_n, froz_n]; omega))))
    · refine call_of (eLaw B hB) (fun _ => none) mixed Tryz.func3 rfl (by simp [Tryz.ntmps3]) (by kernel_rfl) fun hw => ?_
      simp (maxSteps := 2000000) -dsimp (disch := omega) only [h1, h2, decide_true, decide_false, eLaw_6, ↓Tryz.ntmps3, ↓res3, ↓xpre0, xpost0, xpost1, xpost2, xpost3, facts0, facts1, calls0, St.wf.none hw, Nat.add_assoc, ↓reduceIte, Nat.reduceEqDiff, Nat.reduceMul, Nat.reduceAdd, Nat.reduceSub, Nat.reduceLeDiff, Nat.reduceLT, Int.reduceBEq, Int.reduceBNe, Int.reduceEq, Int.reduceNe, Int.reduceLT, Int.reduceLE, Int.reduceToNat, Int.reduceAdd, Int.reduceSub, Int.reduceMul, Int.cast_ofNat_Int]
      refine ⟨l, _, rfl, by omega, hok, hv, fun n1 hn1 => ?_⟩
      have hv1 : OpsAt (s.more n1) (.slice base l.length c) l := hv.grow (Grow.more s hn1)
      suffices hgo : ∀ (x : Bs) (e : Int), scriptV l = .tuple #[str x, .int .i64 e] → _ from by
        cases hs : scriptS l with
        | none => exact hgo [] 1 (by rw [scriptV, hs])
        | some t => exact hgo t 0 (by rw [scriptV, hs])
      intro x e hxe
      rw [hxe]
      simp (maxSteps := 2000000) -dsimp (disch := omega) only [eLaw_7, ↓Tryz.ntmps3, ↓res3, ↓xpre0, xpost0, xpost1, xpost2, xpost3, facts0, facts1, calls0, St.wf.none hw, Nat.add_assoc, ↓reduceIte, Nat.reduceEqDiff, Nat.reduceMul, Nat.reduceAdd, Nat.reduceSub, Nat.reduceLeDiff, Nat.reduceLT, Int.reduceBEq, Int.reduceBNe, Int.reduceEq, Int.reduceNe, Int.reduceLT, Int.reduceLE, Int.reduceToNat, Int.reduceAdd, Int.reduceSub, Int.reduceMul, Int.cast_ofNat_Int]
      refine ⟨l, _, rfl, by omega, hok, hv1, fun n2 hn2 => ?_⟩
      simp only [more_n] at hn2
      rw [hxe]
      simp (maxSteps := 2000000) -dsimp (disch := omega) only [eLaw_8, ↓Tryz.ntmps3, ↓res3, ↓xpre0, xpost0, xpost1, xpost2, xpost3, facts0, facts1, calls0, St.wf.none hw, Nat.add_assoc, ↓reduceIte, Nat.reduceEqDiff, Nat.reduceMul, Nat.reduceAdd, Nat.reduceSub, Nat.reduceLeDiff, Nat.reduceLT, Int.reduceBEq, Int.reduceBNe, Int.reduceEq, Int.reduceNe, Int.reduceLT, Int.reduceLE, Int.reduceToNat, Int.reduceAdd, Int.reduceSub, Int.reduceMul, Int.cast_ofNat_Int]
      refine ⟨b, rfl, by omega, fun v3 s3 g3 o3 => ?_⟩
      obtain ⟨b3, c3, rfl⟩ := o3.slice
      have hbd := readTS_bound b
      simp (maxSteps := 2000000) -dsimp (disch := omega) only [eLaw_9, ↓Tryz.ntmps3, ↓res3, ↓xpre0, xpost0, xpost1, xpost2, xpost3, facts0, facts1, calls0, St.wf.none hw, Nat.add_assoc, ↓reduceIte, Nat.reduceEqDiff, Nat.reduceMul, Nat.reduceAdd, Nat.reduceSub, Nat.reduceLeDiff, Nat.reduceLT, Int.reduceBEq, Int.reduceBNe, Int.reduceEq, Int.reduceNe, Int.reduceLT, Int.reduceLE, Int.reduceToNat, Int.reduceAdd, Int.reduceSub, Int.reduceMul, Int.cast_ofNat_Int]
      refine ⟨b, rfl, by omega, fun v4 s4 g4 o4 => ?_⟩
      obtain ⟨b4, c4, rfl⟩ := o4.slice
      generalize readTS b = rt at o3 o4 hbd ⊢
      have k3 := g3.n
      have k4 := g4.n
      simp only [more_n] at k3
      have he4 : Ext s s4 := by
        refine Ext.trans (Ext.trans ?_ g3.ext) g4.ext
        (repeat (first | with_reducible exact Ext.refl _ | with_reducible assumption | refine Ext.lay ?_ _ _ _ (by omega) (by first | omega | (simp only [lay_n, upd_n, more_n, froz_n]; omega)) | refine Ext.upd ?_ _ _ (by omega) | refine Ext.more ?_ _ (by first | omega | (simp only [lay_n, upd_n, more_n, froz_n]; omega)) | refine Ext.frz ?_ hw _ _ _ (by omega) (by first | omega | (simp only [lay_n, upd_n, more_n, froz_n]; omega))))
      simp (maxSteps := 2000000) -dsimp (disch := omega) only [eq_self_iff_true, decide_true, eLaw_10, ↓Tryz.ntmps3, ↓res3, ↓xpre0, xpost0, xpost1, xpost2, xpost3, facts0, facts1, calls0, St.wf.none hw, Nat.add_assoc, ↓reduceIte, Nat.reduceEqDiff, Nat.reduceMul, Nat.reduceAdd, Nat.reduceSub, Nat.reduceLeDiff, Nat.reduceLT, Int.reduceBEq, Int.reduceBNe, Int.reduceEq, Int.reduceNe, Int.reduceLT, Int.reduceLE, Int.reduceToNat, Int.reduceAdd, Int.reduceSub, Int.reduceMul, Int.cast_ofNat_Int]
      refine ⟨rt.1, _, _, rfl, by omega, o3.grow g4, o4, fun n5 hn5 => ?_⟩
      simp (maxSteps := 2000000) -dsimp (disch := omega) only [eq_self_iff_true, decide_true, eLaw_5, ↓Tryz.ntmps3, ↓res3, ↓xpre0, xpost0, xpost1, xpost2, xpost3, facts0, facts1, calls0, St.wf.none hw, Nat.add_assoc, ↓reduceIte, Nat.reduceEqDiff, Nat.reduceMul, Nat.reduceAdd, Nat.reduceSub, Nat.reduceLeDiff, Nat.reduceLT, Int.reduceBEq, Int.reduceBNe, Int.reduceEq, Int.reduceNe, Int.reduceLT, Int.reduceLE, Int.reduceToNat, Int.reduceAdd, Int.reduceSub, Int.reduceMul, Int.cast_ofNat_Int]
      refine XMore_intro fun k => ?_
      simp (maxSteps := 2000000) -dsimp (disch := omega) only [↓Tryz.ntmps3, ↓res3, ↓xpre0, xpost0, xpost1, xpost2, xpost3, facts0, facts1, calls0, St.wf.none hw, Nat.add_assoc, ↓reduceIte, Nat.reduceEqDiff, Nat.reduceMul, Nat.reduceAdd, Nat.reduceSub, Nat.reduceLeDiff, Nat.reduceLT, Int.reduceBEq, Int.reduceBNe, Int.reduceEq, Int.reduceNe, Int.reduceLT, Int.reduceLE, Int.reduceToNat, Int.reduceAdd, Int.reduceSub, Int.reduceMul, Int.cast_ofNat_Int]
      refine aw hw ?_
      (repeat (first | with_reducible exact Ext.refl _ | with_reducible assumption | refine Ext.lay ?_ _ _ _ (by omega) (by first | omega | (simp only [lay_n, upd_n, more_n, froz_n]; omega)) | refine Ext.upd ?_ _ _ (by omega) | refine Ext.more ?_ _ (by first | omega | (simp only [lay_n, upd_n, more_n, froz_n]; omega)) | refine Ext.frz ?_ hw _ _ _ (by omega) (by first | omega | (simp only [lay_n, upd_n, more_n, froz_n]; omega))))
theorem tmod9 (u : Nat) : Int.tmod (u : Int) 9 = ((u % 9 : Nat) : Int) := by rw [Int.tmod_eq_emod_of_nonneg (by omega)]; omega
theorem scriptS_length : ∀ (l : List OpS) (x : Bs), (∀ o ∈ l, o.ok) → scriptS l = some x → x.length ≤ 201 * l.length
  | [], x, _, h => by cases h; simp
  | o :: l, x, hok, h => by
    obtain ⟨t, ht, h⟩ := bind_some' (show ((lineS o).bind fun t => (scriptS l).map fun r => t ++ 10 :: r) = some x from h)
    cases hr : scriptS l with
    | none => rw [hr] at h; cases h
    | some r =>
      rw [hr] at h
      have h : t ++ 10 :: r = x := by simpa using h
      subst h
      have := scriptS_length l r (fun o ho => hok o (by simp [ho])) hr
      have := (lineS_length (hok o (by simp)) ht).2
      simp only [List.length_append, List.length_cons]; omega
theorem back_c (B : World) (hB : Good B) (l : List OpS) (hok : ∀ o ∈ l, o.ok) (v : Value) (b : Bs) (many : Nat) (hm : many ≤ 255) (s : St) (R : Value → St → Prop) (hv : OpsAt s v l) (h : ∀ s', Grow s s' → R (.bool true) s') :
    CallOK Tryz.prog B 4 #[v, str b, .int .u8 many] s R := by
  have hinj := fun a b : Bs => propext (bs_inj a b)
  obtain ⟨base, c, rfl⟩ := hv.slice
  have aw : ∀ {t : St}, s.wf → Ext s t → Drop R (.bool true) t := fun hw he => drop_ext hw he fun n hn => h _ (Grow.more s hn)
  by_cases h1 : (l.length : Int) > 100
  · refine call_of (eLaw B hB) (fun _ => none) mixed Tryz.func4 rfl (by simp [Tryz.ntmps4]) (by kernel_rfl) fun hw => ?_
    simp (maxSteps := 2000000) -dsimp (disch := omega) only [h1, decide_true, eLaw_5, ↓Tryz.ntmps4, ↓res4, ↓xpre0, xpost0, xpost1, xpost2, xpost3, facts0, facts1, calls0, St.wf.none hw, Nat.add_assoc, ↓reduceIte, Nat.reduceEqDiff, Nat.reduceMul, Nat.reduceAdd, Nat.reduceSub, Nat.reduceLeDiff, Nat.reduceLT, Int.reduceBEq, Int.reduceBNe, Int.reduceEq, Int.reduceNe, Int.reduceLT, Int.reduceLE, Int.reduceToNat, Int.reduceAdd, Int.reduceSub, Int.reduceMul, Int.cast_ofNat_Int]
    refine XMore_intro fun k => ?_
    simp (maxSteps := 2000000) -dsimp (disch := omega) only [↓Tryz.ntmps4, ↓res4, ↓xpre0, xpost0, xpost1, xpost2, xpost3, facts0, facts1, calls0, St.wf.none hw, Nat.add_assoc, ↓reduceIte, Nat.reduceEqDiff, Nat.reduceMul, Nat.reduceAdd, Nat.reduceSub, Nat.reduceLeDiff, Nat.reduceLT, Int.reduceBEq, Int.reduceBNe, Int.reduceEq, Int.reduceNe, Int.reduceLT, Int.reduceLE, Int.reduceToNat, Int.reduceAdd, Int.reduceSub, Int.reduceMul, Int.cast_ofNat_Int]
    refine aw hw ?_
    (repeat (first | with_reducible exact Ext.refl _ | with_reducible assumption | refine Ext.lay ?_ _ _ _ (by omega) (by first | omega | (simp only [lay_n, upd_n, more_n, froz_n]; omega)) | refine Ext.upd ?_ _ _ (by omega) | refine Ext.more ?_ _ (by first | omega | (simp only [lay_n, upd_n, more_n, froz_n]; omega)) | refine Ext.frz ?_ hw _ _ _ (by omega) (by first | omega | (simp only [lay_n, upd_n, more_n, froz_n]; omega))))
  · by_cases h2 : (b.length : Int) > 300
    · refine call_of (eLaw B hB) (fun _ => none) mixed Tryz.func4 rfl (by simp [Tryz.ntmps4]) (by kernel_rfl) fun hw => ?_
      simp (maxSteps := 2000000) -dsimp (disch := omega) only [h1, h2, decide_true, decide_false, eLaw_5, ↓Tryz.ntmps4, ↓res4, ↓xpre0, xpost0, xpost1, xpost2, xpost3, facts0, facts1, calls0, St.wf.none hw, Nat.add_assoc, ↓reduceIte, Nat.reduceEqDiff, Nat.reduceMul, Nat.reduceAdd, Nat.reduceSub, Nat.reduceLeDiff, Nat.reduceLT, Int.reduceBEq, Int.reduceBNe, Int.reduceEq, Int.reduceNe, Int.reduceLT, Int.reduceLE, Int.reduceToNat, Int.reduceAdd, Int.reduceSub, Int.reduceMul, Int.cast_ofNat_Int]
      refine XMore_intro fun k => ?_
      simp (maxSteps := 2000000) -dsimp (disch := omega) only [↓Tryz.ntmps4, ↓res4, ↓xpre0, xpost0, xpost1, xpost2, xpost3, facts0, facts1, calls0, St.wf.none hw, Nat.add_assoc, ↓reduceIte, Nat.reduceEqDiff, Nat.reduceMul, Nat.reduceAdd, Nat.reduceSub, Nat.reduceLeDiff, Nat.reduceLT, Int.reduceBEq, Int.reduceBNe, Int.reduceEq, Int.reduceNe, Int.reduceLT, Int.reduceLE, Int.reduceToNat, Int.reduceAdd, Int.reduceSub, Int.reduceMul, Int.cast_ofNat_Int]
      refine aw hw ?_
      (repeat (first | with_reducible exact Ext.refl _ | with_reducible assumption | refine Ext.lay ?_ _ _ _ (by omega) (by first | omega | (simp only [lay_n, upd_n, more_n, froz_n]; omega)) | refine Ext.upd ?_ _ _ (by omega) | refine Ext.more ?_ _ (by first | omega | (simp only [lay_n, upd_n, more_n, froz_n]; omega)) | refine Ext.frz ?_ hw _ _ _ (by omega) (by first | omega | (simp only [lay_n, upd_n, more_n, froz_n]; omega))))
    · refine call_of (eLaw B hB) (fun _ => none) mixed Tryz.func4 rfl (by simp [Tryz.ntmps4]) (by kernel_rfl) fun hw => ?_
      simp (maxSteps := 2000000) -dsimp (disch := omega) only [h1, h2, decide_true, decide_false, eLaw_11, ↓Tryz.ntmps4, ↓res4, ↓xpre0, xpost0, xpost1, xpost2, xpost3, facts0, facts1, calls0, St.wf.none hw, Nat.add_assoc, ↓reduceIte, Nat.reduceEqDiff, Nat.reduceMul, Nat.reduceAdd, Nat.reduceSub, Nat.reduceLeDiff, Nat.reduceLT, Int.reduceBEq, Int.reduceBNe, Int.reduceEq, Int.reduceNe, Int.reduceLT, Int.reduceLE, Int.reduceToNat, Int.reduceAdd, Int.reduceSub, Int.reduceMul, Int.cast_ofNat_Int]
      refine ⟨b, rfl, by omega, fun n1 hn1 => ?_⟩
      simp only [parseV]
      have hps : (parseS b).2 = 0 → lineS (parseS b).1 = some b ∧ (parseS b).1.ok := fun e => parse_some (by rw [← e])
      generalize parseS b = rp at hps
      obtain ⟨o, e⟩ := rp
      simp only at hps ⊢
      -- the second half
      have half : ∀ (fr : Fr) (t : St), True := fun _ _ => trivial
      by_cases he : e = 0
      · subst he
        obtain ⟨hlo, hoko⟩ := hps rfl
        simp (maxSteps := 2000000) -dsimp (disch := omega) only [OpS.cells, eq_self_iff_true, decide_true, eLaw_12, ↓Tryz.ntmps4, ↓res4, ↓xpre0, xpost0, xpost1, xpost2, xpost3, facts0, facts1, calls0, St.wf.none hw, Nat.add_assoc, ↓reduceIte, Nat.reduceEqDiff, Nat.reduceMul, Nat.reduceAdd, Nat.reduceSub, Nat.reduceLeDiff, Nat.reduceLT, Int.reduceBEq, Int.reduceBNe, Int.reduceEq, Int.reduceNe, Int.reduceLT, Int.reduceLE, Int.reduceToNat, Int.reduceAdd, Int.reduceSub, Int.reduceMul, Int.cast_ofNat_Int]
        refine ⟨o, rfl, hoko, fun n2 hn2 => ?_⟩
        simp only [lay_n] at hn2
        simp only [lineV, hlo]
        simp (maxSteps := 2000000) -dsimp (disch := omega) only [eq_self_iff_true, decide_true, hinj, eLaw_6, ↓Tryz.ntmps4, ↓res4, ↓xpre0, xpost0, xpost1, xpost2, xpost3, facts0, facts1, calls0, St.wf.none hw, Nat.add_assoc, ↓reduceIte, Nat.reduceEqDiff, Nat.reduceMul, Nat.reduceAdd, Nat.reduceSub, Nat.reduceLeDiff, Nat.reduceLT, Int.reduceBEq, Int.reduceBNe, Int.reduceEq, Int.reduceNe, Int.reduceLT, Int.reduceLE, Int.reduceToNat, Int.reduceAdd, Int.reduceSub, Int.reduceMul, Int.cast_ofNat_Int]
        refine ⟨l, _, rfl, by omega, hok, hv.ext hw ?e, fun n3 hn3 => ?k⟩
        case e => (repeat (first | with_reducible exact Ext.refl _ | with_reducible assumption | refine Ext.lay ?_ _ _ _ (by omega) (by first | omega | (simp only [lay_n, upd_n, more_n, froz_n]; omega)) | refine Ext.upd ?_ _ _ (by omega) | refine Ext.more ?_ _ (by first | omega | (simp only [lay_n, upd_n, more_n, froz_n]; omega)) | refine Ext.frz ?_ hw _ _ _ (by omega) (by first | omega | (simp only [lay_n, upd_n, more_n, froz_n]; omega))))
        case k =>
          try simp only [more_n, lay_n] at hn3
          cases hs : scriptS l with
          | none =>
            simp only [scriptV, hs]
            simp (maxSteps := 2000000) -dsimp (disch := omega) only [eq_self_iff_true, decide_true, decide_false, hinj, eLaw_5, ↓Tryz.ntmps4, ↓res4, ↓xpre0, xpost0, xpost1, xpost2, xpost3, facts0, facts1, calls0, St.wf.none hw, Nat.add_assoc, ↓reduceIte, Nat.reduceEqDiff, Nat.reduceMul, Nat.reduceAdd, Nat.reduceSub, Nat.reduceLeDiff, Nat.reduceLT, Int.reduceBEq, Int.reduceBNe, Int.reduceEq, Int.reduceNe, Int.reduceLT, Int.reduceLE, Int.reduceToNat, Int.reduceAdd, Int.reduceSub, Int.reduceMul, Int.cast_ofNat_Int]
            refine XMore_intro fun k => ?_
            simp (maxSteps := 2000000) -dsimp (disch := omega) only [↓Tryz.ntmps4, ↓res4, ↓xpre0, xpost0, xpost1, xpost2, xpost3, facts0, facts1, calls0, St.wf.none hw, Nat.add_assoc, ↓reduceIte, Nat.reduceEqDiff, Nat.reduceMul, Nat.reduceAdd, Nat.reduceSub, Nat.reduceLeDiff, Nat.reduceLT, Int.reduceBEq, Int.reduceBNe, Int.reduceEq, Int.reduceNe, Int.reduceLT, Int.reduceLE, Int.reduceToNat, Int.reduceAdd, Int.reduceSub, Int.reduceMul, Int.cast_ofNat_Int]
            refine aw hw ?_
            (repeat (first | with_reducible exact Ext.refl _ | with_reducible assumption | refine Ext.lay ?_ _ _ _ (by omega) (by first | omega | (simp only [lay_n, upd_n, more_n, froz_n]; omega)) | refine Ext.upd ?_ _ _ (by omega) | refine Ext.more ?_ _ (by first | omega | (simp only [lay_n, upd_n, more_n, froz_n]; omega)) | refine Ext.frz ?_ hw _ _ _ (by omega) (by first | omega | (simp only [lay_n, upd_n, more_n, froz_n]; omega))))
          | some x =>
            have hxl := scriptS_length l x hok hs
            simp only [scriptV, hs]
            simp (maxSteps := 2000000) -dsimp (disch := omega) only [hinj, ↓Tryz.ntmps4, ↓res4, ↓xpre0, xpost0, xpost1, xpost2, xpost3, facts0, facts1, calls0, St.wf.none hw, Nat.add_assoc, ↓reduceIte, Nat.reduceEqDiff, Nat.reduceMul, Nat.reduceAdd, Nat.reduceSub, Nat.reduceLeDiff, Nat.reduceLT, Int.reduceBEq, Int.reduceBNe, Int.reduceEq, Int.reduceNe, Int.reduceLT, Int.reduceLE, Int.reduceToNat, Int.reduceAdd, Int.reduceSub, Int.reduceMul, Int.cast_ofNat_Int]
            refine loop_wf (pl := fun _ => none) mixed (by kernel_rfl) (fun m fr t => ∃ i, i ≤ many % 9 ∧ m = many % 9 - i ∧ fr.ds = [] ∧ Ext s t ∧ fr.ρ 0 = .slice base l.length c ∧ fr.ρ 2 = .int .u8 many ∧ fr.ρ 11 = str x ∧ fr.ρ 13 = str (moreS i) ∧ fr.ρ 14 = .int .i64 (i : Nat)) (many % 9) ?_ ?_
            · refine ⟨0, Nat.zero_le _, rfl, rfl, ?_, rfl, rfl, rfl, rfl, rfl⟩
              (repeat (first | with_reducible exact Ext.refl _ | with_reducible assumption | refine Ext.lay ?_ _ _ _ (by omega) (by first | omega | (simp only [lay_n, upd_n, more_n, froz_n]; omega)) | refine Ext.upd ?_ _ _ (by omega) | refine Ext.more ?_ _ (by first | omega | (simp only [lay_n, upd_n, more_n, froz_n]; omega)) | refine Ext.frz ?_ hw _ _ _ (by omega) (by first | omega | (simp only [lay_n, upd_n, more_n, froz_n]; omega))))
            · rintro m fr t ht ⟨i, hi, rfl, hds, hext, r0, r2, r11, r13, r14⟩
              have hml := moreS_length i
              have w9 : IntKind.i64.wrap ((many % 9 : Nat) : Int) = ((many % 9 : Nat) : Int) := wrap_i64 (by omega) (by omega)
              have w8 : IntKind.u8.wrap ((many % 9 : Nat) : Int) = ((many % 9 : Nat) : Int) := wrap_u8 (by omega) (by omega)
              by_cases hlt : i < many % 9
              · have hlt' : (i : Int) < ((many % 9 : Nat) : Int) := by omega
                have hwr : IntKind.i64.wrap ((i : Int) + 1) = ((i + 1 : Nat) : Int) := by rw [wrap_i64 (by omega) (by omega)]; omega
                simp (maxSteps := 2000000) -dsimp (disch := omega) only [r0, r2, r11, r13, r14, hds, tmod9, w9, w8, hlt', hwr, decide_true, ↓Tryz.ntmps4, ↓res4, ↓xpre0, xpost0, xpost1, xpost2, xpost3, facts0, facts1, calls0, St.wf.none hw, Nat.add_assoc, ↓reduceIte, Nat.reduceEqDiff, Nat.reduceMul, Nat.reduceAdd, Nat.reduceSub, Nat.reduceLeDiff, Nat.reduceLT, Int.reduceBEq, Int.reduceBNe, Int.reduceEq, Int.reduceNe, Int.reduceLT, Int.reduceLE, Int.reduceToNat, Int.reduceAdd, Int.reduceSub, Int.reduceMul, Int.cast_ofNat_Int]
                refine ⟨by omega, fun _ => ⟨many % 9 - (i + 1), by omega, i + 1, by omega, rfl, hext, rfl, rfl⟩⟩
              · obtain rfl : i = many % 9 := by omega
                simp (maxSteps := 2000000) -dsimp (disch := omega) only [r0, r2, r11, r13, r14, hds, tmod9, w9, w8, Int.lt_irrefl, decide_false, eLaw_8, ↓Tryz.ntmps4, ↓res4, ↓xpre0, xpost0, xpost1, xpost2, xpost3, facts0, facts1, calls0, St.wf.none hw, Nat.add_assoc, ↓reduceIte, Nat.reduceEqDiff, Nat.reduceMul, Nat.reduceAdd, Nat.reduceSub, Nat.reduceLeDiff, Nat.reduceLT, Int.reduceBEq, Int.reduceBNe, Int.reduceEq, Int.reduceNe, Int.reduceLT, Int.reduceLE, Int.reduceToNat, Int.reduceAdd, Int.reduceSub, Int.reduceMul, Int.cast_ofNat_Int]
                refine ⟨by omega, fun _ => ⟨by simp only [List.length_append]; omega, fun _ => ⟨_, rfl, by simp only [List.length_append]; omega, fun v5 s5 g5 o5 => ?_⟩⟩⟩
                have hlen : (moreS (many % 9) ++ x ++ moreS (many % 9)).length = 10 * (many % 9) + x.length + 10 * (many % 9) := by simp only [List.length_append, hml]
                have k5 : Ext s s5 := hext.trans g5.ext
                by_cases hsm : (moreS (many % 9) ++ x ++ moreS (many % 9)).length ≤ 20000
                · have hbr := back_read (many % 9) hok (by omega) hs hsm
                  rw [hbr] at o5 ⊢
                  obtain ⟨b5, c5, rfl⟩ := o5.slice
                  simp (maxSteps := 2000000) -dsimp (disch := omega) only [r0, r2, r11, r13, r14, hds, eq_self_iff_true, decide_true, eLaw_10, ↓Tryz.ntmps4, ↓res4, ↓xpre0, xpost0, xpost1, xpost2, xpost3, facts0, facts1, calls0, St.wf.none hw, Nat.add_assoc, ↓reduceIte, Nat.reduceEqDiff, Nat.reduceMul, Nat.reduceAdd, Nat.reduceSub, Nat.reduceLeDiff, Nat.reduceLT, Int.reduceBEq, Int.reduceBNe, Int.reduceEq, Int.reduceNe, Int.reduceLT, Int.reduceLE, Int.reduceToNat, Int.reduceAdd, Int.reduceSub, Int.reduceMul, Int.cast_ofNat_Int]
                  refine ⟨l, _, _, rfl, by omega, o5, hv.ext hw k5, fun n6 hn6 => ?_⟩
                  simp (maxSteps := 2000000) -dsimp (disch := omega) only [r0, r2, r11, r13, r14, hds, eq_self_iff_true, decide_true, eLaw_5, ↓Tryz.ntmps4, ↓res4, ↓xpre0, xpost0, xpost1, xpost2, xpost3, facts0, facts1, calls0, St.wf.none hw, Nat.add_assoc, ↓reduceIte, Nat.reduceEqDiff, Nat.reduceMul, Nat.reduceAdd, Nat.reduceSub, Nat.reduceLeDiff, Nat.reduceLT, Int.reduceBEq, Int.reduceBNe, Int.reduceEq, Int.reduceNe, Int.reduceLT, Int.reduceLE, Int.reduceToNat, Int.reduceAdd, Int.reduceSub, Int.reduceMul, Int.cast_ofNat_Int]
                  refine XMore_intro fun k => ?_
                  simp (maxSteps := 2000000) -dsimp (disch := omega) only [hds, ↓Tryz.ntmps4, ↓res4, ↓xpre0, xpost0, xpost1, xpost2, xpost3, facts0, facts1, calls0, St.wf.none hw, Nat.add_assoc, ↓reduceIte, Nat.reduceEqDiff, Nat.reduceMul, Nat.reduceAdd, Nat.reduceSub, Nat.reduceLeDiff, Nat.reduceLT, Int.reduceBEq, Int.reduceBNe, Int.reduceEq, Int.reduceNe, Int.reduceLT, Int.reduceLE, Int.reduceToNat, Int.reduceAdd, Int.reduceSub, Int.reduceMul, Int.cast_ofNat_Int]
                  refine aw hw ?_
                  (repeat (first | with_reducible exact Ext.refl _ | with_reducible assumption | refine Ext.lay ?_ _ _ _ (by omega) (by first | omega | (simp only [lay_n, upd_n, more_n, froz_n]; omega)) | refine Ext.upd ?_ _ _ (by omega) | refine Ext.more ?_ _ (by first | omega | (simp only [lay_n, upd_n, more_n, froz_n]; omega)) | refine Ext.frz ?_ hw _ _ _ (by omega) (by first | omega | (simp only [lay_n, upd_n, more_n, froz_n]; omega))))
                · have hbr : readTS (moreS (many % 9) ++ x ++ moreS (many % 9)) = ([], 0, 13) := by unfold readTS; rw [if_pos (by omega)]
                  rw [hbr] at o5 ⊢
                  obtain ⟨b5, c5, rfl⟩ := o5.slice
                  have hxg : (x.length : Int) > 19000 := by omega
                  simp (maxSteps := 2000000) -dsimp (disch := omega) only [r0, r2, r11, r13, r14, hds, hxg, eq_self_iff_true, decide_true, decide_false, eLaw_5, ↓Tryz.ntmps4, ↓res4, ↓xpre0, xpost0, xpost1, xpost2, xpost3, facts0, facts1, calls0, St.wf.none hw, Nat.add_assoc, ↓reduceIte, Nat.reduceEqDiff, Nat.reduceMul, Nat.reduceAdd, Nat.reduceSub, Nat.reduceLeDiff, Nat.reduceLT, Int.reduceBEq, Int.reduceBNe, Int.reduceEq, Int.reduceNe, Int.reduceLT, Int.reduceLE, Int.reduceToNat, Int.reduceAdd, Int.reduceSub, Int.reduceMul, Int.cast_ofNat_Int]
                  refine XMore_intro fun k => ?_
                  simp (maxSteps := 2000000) -dsimp (disch := omega) only [hds, ↓Tryz.ntmps4, ↓res4, ↓xpre0, xpost0, xpost1, xpost2, xpost3, facts0, facts1, calls0, St.wf.none hw, Nat.add_assoc, ↓reduceIte, Nat.reduceEqDiff, Nat.reduceMul, Nat.reduceAdd, Nat.reduceSub, Nat.reduceLeDiff, Nat.reduceLT, Int.reduceBEq, Int.reduceBNe, Int.reduceEq, Int.reduceNe, Int.reduceLT, Int.reduceLE, Int.reduceToNat, Int.reduceAdd, Int.reduceSub, Int.reduceMul, Int.cast_ofNat_Int]
                  refine aw hw ?_
                  (repeat (first | with_reducible exact Ext.refl _ | with_reducible assumption | refine Ext.lay ?_ _ _ _ (by omega) (by first | omega | (simp only [lay_n, upd_n, more_n, froz_n]; omega)) | refine Ext.upd ?_ _ _ (by omega) | refine Ext.more ?_ _ (by first | omega | (simp only [lay_n, upd_n, more_n, froz_n]; omega)) | refine Ext.frz ?_ hw _ _ _ (by omega) (by first | omega | (simp only [lay_n, upd_n, more_n, froz_n]; omega))))
      · simp (maxSteps := 2000000) -dsimp (disch := omega) only [OpS.cells, he, decide_false, eLaw_6, ↓Tryz.ntmps4, ↓res4, ↓xpre0, xpost0, xpost1, xpost2, xpost3, facts0, facts1, calls0, St.wf.none hw, Nat.add_assoc, ↓reduceIte, Nat.reduceEqDiff, Nat.reduceMul, Nat.reduceAdd, Nat.reduceSub, Nat.reduceLeDiff, Nat.reduceLT, Int.reduceBEq, Int.reduceBNe, Int.reduceEq, Int.reduceNe, Int.reduceLT, Int.reduceLE, Int.reduceToNat, Int.reduceAdd, Int.reduceSub, Int.reduceMul, Int.cast_ofNat_Int]
        refine ⟨l, _, rfl, by omega, hok, hv.ext hw ?e, fun n3 hn3 => ?k⟩
        case e => (repeat (first | with_reducible exact Ext.refl _ | with_reducible assumption | refine Ext.lay ?_ _ _ _ (by omega) (by first | omega | (simp only [lay_n, upd_n, more_n, froz_n]; omega)) | refine Ext.upd ?_ _ _ (by omega) | refine Ext.more ?_ _ (by first | omega | (simp only [lay_n, upd_n, more_n, froz_n]; omega)) | refine Ext.frz ?_ hw _ _ _ (by omega) (by first | omega | (simp only [lay_n, upd_n, more_n, froz_n]; omega))))
        case k =>
          try simp only [more_n, lay_n] at hn3
          cases hs : scriptS l with
          | none =>
            simp only [scriptV, hs]
            simp (maxSteps := 2000000) -dsimp (disch := omega) only [eq_self_iff_true, decide_true, decide_false, hinj, eLaw_5, ↓Tryz.ntmps4, ↓res4, ↓xpre0, xpost0, xpost1, xpost2, xpost3, facts0, facts1, calls0, St.wf.none hw, Nat.add_assoc, ↓reduceIte, Nat.reduceEqDiff, Nat.reduceMul, Nat.reduceAdd, Nat.reduceSub, Nat.reduceLeDiff, Nat.reduceLT, Int.reduceBEq, Int.reduceBNe, Int.reduceEq, Int.reduceNe, Int.reduceLT, Int.reduceLE, Int.reduceToNat, Int.reduceAdd, Int.reduceSub, Int.reduceMul, Int.cast_ofNat_Int]
            refine XMore_intro fun k => ?_
            simp (maxSteps := 2000000) -dsimp (disch := omega) only [↓Tryz.ntmps4, ↓res4, ↓xpre0, xpost0, xpost1, xpost2, xpost3, facts0, facts1, calls0, St.wf.none hw, Nat.add_assoc, ↓reduceIte, Nat.reduceEqDiff, Nat.reduceMul, Nat.reduceAdd, Nat.reduceSub, Nat.reduceLeDiff, Nat.reduceLT, Int.reduceBEq, Int.reduceBNe, Int.reduceEq, Int.reduceNe, Int.reduceLT, Int.reduceLE, Int.reduceToNat, Int.reduceAdd, Int.reduceSub, Int.reduceMul, Int.cast_ofNat_Int]
            refine aw hw ?_
            (repeat (first | with_reducible exact Ext.refl _ | with_reducible assumption | refine Ext.lay ?_ _ _ _ (by omega) (by first | omega | (simp only [lay_n, upd_n, more_n, froz_n]; omega)) | refine Ext.upd ?_ _ _ (by omega) | refine Ext.more ?_ _ (by first | omega | (simp only [lay_n, upd_n, more_n, froz_n]; omega)) | refine Ext.frz ?_ hw _ _ _ (by omega) (by first | omega | (simp only [lay_n, upd_n, more_n, froz_n]; omega))))
          | some x =>
            have hxl := scriptS_length l x hok hs
            simp only [scriptV, hs]
            simp (maxSteps := 2000000) -dsimp (disch := omega) only [hinj, ↓Tryz.ntmps4, ↓res4, ↓xpre0, xpost0, xpost1, xpost2, xpost3, facts0, facts1, calls0, St.wf.none hw, Nat.add_assoc, ↓reduceIte, Nat.reduceEqDiff, Nat.reduceMul, Nat.reduceAdd, Nat.reduceSub, Nat.reduceLeDiff, Nat.reduceLT, Int.reduceBEq, Int.reduceBNe, Int.reduceEq, Int.reduceNe, Int.reduceLT, Int.reduceLE, Int.reduceToNat, Int.reduceAdd, Int.reduceSub, Int.reduceMul, Int.cast_ofNat_Int]
            refine loop_wf (pl := fun _ => none) mixed (by kernel_rfl) (fun m fr t => ∃ i, i ≤ many % 9 ∧ m = many % 9 - i ∧ fr.ds = [] ∧ Ext s t ∧ fr.ρ 0 = .slice base l.length c ∧ fr.ρ 2 = .int .u8 many ∧ fr.ρ 11 = str x ∧ fr.ρ 13 = str (moreS i) ∧ fr.ρ 14 = .int .i64 (i : Nat)) (many % 9) ?_ ?_
            · refine ⟨0, Nat.zero_le _, rfl, rfl, ?_, rfl, rfl, rfl, rfl, rfl⟩
              (repeat (first | with_reducible exact Ext.refl _ | with_reducible assumption | refine Ext.lay ?_ _ _ _ (by omega) (by first | omega | (simp only [lay_n, upd_n, more_n, froz_n]; omega)) | refine Ext.upd ?_ _ _ (by omega) | refine Ext.more ?_ _ (by first | omega | (simp only [lay_n, upd_n, more_n, froz_n]; omega)) | refine Ext.frz ?_ hw _ _ _ (by omega) (by first | omega | (simp only [lay_n, upd_n, more_n, froz_n]; omega))))
            · rintro m fr t ht ⟨i, hi, rfl, hds, hext, r0, r2, r11, r13, r14⟩
              have hml := moreS_length i
              have w9 : IntKind.i64.wrap ((many % 9 : Nat) : Int) = ((many % 9 : Nat) : Int) := wrap_i64 (by omega) (by omega)
              have w8 : IntKind.u8.wrap ((many % 9 : Nat) : Int) = ((many % 9 : Nat) : Int) := wrap_u8 (by omega) (by omega)
              by_cases hlt : i < many % 9
              · have hlt' : (i : Int) < ((many % 9 : Nat) : Int) := by omega
                have hwr : IntKind.i64.wrap ((i : Int) + 1) = ((i + 1 : Nat) : Int) := by rw [wrap_i64 (by omega) (by omega)]; omega
                simp (maxSteps := 2000000) -dsimp (disch := omega) only [r0, r2, r11, r13, r14, hds, tmod9, w9, w8, hlt', hwr, decide_true, ↓Tryz.ntmps4, ↓res4, ↓xpre0, xpost0, xpost1, xpost2, xpost3, facts0, facts1, calls0, St.wf.none hw, Nat.add_assoc, ↓reduceIte, Nat.reduceEqDiff, Nat.reduceMul, Nat.reduceAdd, Nat.reduceSub, Nat.reduceLeDiff, Nat.reduceLT, Int.reduceBEq, Int.reduceBNe, Int.reduceEq, Int.reduceNe, Int.reduceLT, Int.reduceLE, Int.reduceToNat, Int.reduceAdd, Int.reduceSub, Int.reduceMul, Int.cast_ofNat_Int]
                refine ⟨by omega, fun _ => ⟨many % 9 - (i + 1), by omega, i + 1, by omega, rfl, hext, rfl, rfl⟩⟩
              · obtain rfl : i = many % 9 := by omega
                simp (maxSteps := 2000000) -dsimp (disch := omega) only [r0, r2, r11, r13, r14, hds, tmod9, w9, w8, Int.lt_irrefl, decide_false, eLaw_8, ↓Tryz.ntmps4, ↓res4, ↓xpre0, xpost0, xpost1, xpost2, xpost3, facts0, facts1, calls0, St.wf.none hw, Nat.add_assoc, ↓reduceIte, Nat.reduceEqDiff, Nat.reduceMul, Nat.reduceAdd, Nat.reduceSub, Nat.reduceLeDiff, Nat.reduceLT, Int.reduceBEq, Int.reduceBNe, Int.reduceEq, Int.reduceNe, Int.reduceLT, Int.reduceLE, Int.reduceToNat, Int.reduceAdd, Int.reduceSub, Int.reduceMul, Int.cast_ofNat_Int]
                refine ⟨by omega, fun _ => ⟨by simp only [List.length_append]; omega, fun _ => ⟨_, rfl, by simp only [List.length_append]; omega, fun v5 s5 g5 o5 => ?_⟩⟩⟩
                have hlen : (moreS (many % 9) ++ x ++ moreS (many % 9)).length = 10 * (many % 9) + x.length + 10 * (many % 9) := by simp only [List.length_append, hml]
                have k5 : Ext s s5 := hext.trans g5.ext
                by_cases hsm : (moreS (many % 9) ++ x ++ moreS (many % 9)).length ≤ 20000
                · have hbr := back_read (many % 9) hok (by omega) hs hsm
                  rw [hbr] at o5 ⊢
                  obtain ⟨b5, c5, rfl⟩ := o5.slice
                  simp (maxSteps := 2000000) -dsimp (disch := omega) only [r0, r2, r11, r13, r14, hds, eq_self_iff_true, decide_true, eLaw_10, ↓Tryz.ntmps4, ↓res4, ↓xpre0, xpost0, xpost1, xpost2, xpost3, facts0, facts1, calls0, St.wf.none hw, Nat.add_assoc, ↓reduceIte, Nat.reduceEqDiff, Nat.reduceMul, Nat.reduceAdd, Nat.reduceSub, Nat.reduceLeDiff, Nat.reduceLT, Int.reduceBEq, Int.reduceBNe, Int.reduceEq, Int.reduceNe, Int.reduceLT, Int.reduceLE, Int.reduceToNat, Int.reduceAdd, Int.reduceSub, Int.reduceMul, Int.cast_ofNat_Int]
                  refine ⟨l, _, _, rfl, by omega, o5, hv.ext hw k5, fun n6 hn6 => ?_⟩
                  simp (maxSteps := 2000000) -dsimp (disch := omega) only [r0, r2, r11, r13, r14, hds, eq_self_iff_true, decide_true, eLaw_5, ↓Tryz.ntmps4, ↓res4, ↓xpre0, xpost0, xpost1, xpost2, xpost3, facts0, facts1, calls0, St.wf.none hw, Nat.add_assoc, ↓reduceIte, Nat.reduceEqDiff, Nat.reduceMul, Nat.reduceAdd, Nat.reduceSub, Nat.reduceLeDiff, Nat.reduceLT, Int.reduceBEq, Int.reduceBNe, Int.reduceEq, Int.reduceNe, Int.reduceLT, Int.reduceLE, Int.reduceToNat, Int.reduceAdd, Int.reduceSub, Int.reduceMul, Int.cast_ofNat_Int]
                  refine XMore_intro fun k => ?_
                  simp (maxSteps := 2000000) -dsimp (disch := omega) only [hds, ↓Tryz.ntmps4, ↓res4, ↓xpre0, xpost0, xpost1, xpost2, xpost3, facts0, facts1, calls0, St.wf.none hw, Nat.add_assoc, ↓reduceIte, Nat.reduceEqDiff, Nat.reduceMul, Nat.reduceAdd, Nat.reduceSub, Nat.reduceLeDiff, Nat.reduceLT, Int.reduceBEq, Int.reduceBNe, Int.reduceEq, Int.reduceNe, Int.reduceLT, Int.reduceLE, Int.reduceToNat, Int.reduceAdd, Int.reduceSub, Int.reduceMul, Int.cast_ofNat_Int]
                  refine aw hw ?_
                  (repeat (first | with_reducible exact Ext.refl _ | with_reducible assumption | refine Ext.lay ?_ _ _ _ (by omega) (by first | omega | (simp only [lay_n, upd_n, more_n, froz_n]; omega)) | refine Ext.upd ?_ _ _ (by omega) | refine Ext.more ?_ _ (by first | omega | (simp only [lay_n, upd_n, more_n, froz_n]; omega)) | refine Ext.frz ?_ hw _ _ _ (by omega) (by first | omega | (simp only [lay_n, upd_n, more_n, froz_n]; omega))))
                · have hbr : readTS (moreS (many % 9) ++ x ++ moreS (many % 9)) = ([], 0, 13) := by unfold readTS; rw [if_pos (by omega)]
                  rw [hbr] at o5 ⊢
                  obtain ⟨b5, c5, rfl⟩ := o5.slice
                  have hxg : (x.length : Int) > 19000 := by omega
                  simp (maxSteps := 2000000) -dsimp (disch := omega) only [r0, r2, r11, r13, r14, hds, hxg, eq_self_iff_true, decide_true, decide_false, eLaw_5, ↓Tryz.ntmps4, ↓res4, ↓xpre0, xpost0, xpost1, xpost2, xpost3, facts0, facts1, calls0, St.wf.none hw, Nat.add_assoc, ↓reduceIte, Nat.reduceEqDiff, Nat.reduceMul, Nat.reduceAdd, Nat.reduceSub, Nat.reduceLeDiff, Nat.reduceLT, Int.reduceBEq, Int.reduceBNe, Int.reduceEq, Int.reduceNe, Int.reduceLT, Int.reduceLE, Int.reduceToNat, Int.reduceAdd, Int.reduceSub, Int.reduceMul, Int.cast_ofNat_Int]
                  refine XMore_intro fun k => ?_
                  simp (maxSteps := 2000000) -dsimp (disch := omega) only [hds, ↓Tryz.ntmps4, ↓res4, ↓xpre0, xpost0, xpost1, xpost2, xpost3, facts0, facts1, calls0, St.wf.none hw, Nat.add_assoc, ↓reduceIte, Nat.reduceEqDiff, Nat.reduceMul, Nat.reduceAdd, Nat.reduceSub, Nat.reduceLeDiff, Nat.reduceLT, Int.reduceBEq, Int.reduceBNe, Int.reduceEq, Int.reduceNe, Int.reduceLT, Int.reduceLE, Int.reduceToNat, Int.reduceAdd, Int.reduceSub, Int.reduceMul, Int.cast_ofNat_Int]
                  refine aw hw ?_
                  (repeat (first | with_reducible exact Ext.refl _ | with_reducible assumption | refine Ext.lay ?_ _ _ _ (by omega) (by first | omega | (simp only [lay_n, upd_n, more_n, froz_n]; omega)) | refine Ext.upd ?_ _ _ (by omega) | refine Ext.more ?_ _ (by first | omega | (simp only [lay_n, upd_n, more_n, froz_n]; omega)) | refine Ext.frz ?_ hw _ _ _ (by omega) (by first | omega | (simp only [lay_n, upd_n, more_n, froz_n]; omega))))
end Go.Proofs.TX
