/- The text layer's functions: the Builder, Script. -/
import Derived.Test.YtfndoonmgilklaaGreatDoorXT17
import Derived.Test.YtfndoonmgilklaaGreatDoorXOps10
set_option linter.unusedSimpArgs false
set_option linter.unusedVariables false
set_option maxRecDepth 100000
set_option maxHeartbeats 4000000
namespace Go.Proofs.TX
open Go
theorem call55 (E : Env Tryz.prog) (first captured : Array Value) (args : List Value) (s : St) (K : Kp (Value → St → Prop)) : XCallV Tryz.prog E false (.func (.func 55) first captured) args s K = wpS Tryz.prog false (Extern.AbiNoEscape.same (first ++ args.toArray ++ captured)) s K.K :=
  XCallV_extern Tryz.func55 (by kernel_rfl) (by kernel_rfl) (by kernel_rfl) (by kernel_rfl) first captured args K
theorem same_run (x : Value) (s : St) (K : Value → St → Prop) : wpS Tryz.prog false (Extern.AbiNoEscape.same #[x]) s K = K x s := rfl
theorem infoB : ∃ j, Tryz.prog.info? 46 = some j ∧ j.size = 2 := Option.map_eq_some_iff.1 (Tryz.Builder_Extra_169.sizeBuilder)
theorem conv_to {s : St} {a : Nat} {c : Array Value} {fz : Nat × Nat} (h : s.h a = some (.cells c 46 fz)) (hc : 0 < c.size) (K : Kp (Value → St → Prop)) : XConv Tryz.prog false (convK Tryz.prog 43 92) 43 92 (.pointer (some ⟨a, 0, none⟩)) s K = K.K (.pointer (some ⟨a, 0, none⟩)) s := by
  obtain ⟨j, hj, hs⟩ := infoB
  have e : convK Tryz.prog 43 92 = .other := by kernel_rfl
  rw [e]
  exact wpS_to_unsafe (src := 43) (dst := 92) ⟨a, 0, none⟩ (by kernel_rfl) (by kernel_rfl) hj (by omega) (at_of_h h) hc K.K
theorem conv_from {s : St} {a : Nat} {x y : Value} {fz : Nat × Nat} (h : s.h a = some (.cells #[x, y] 46 fz)) (K : Kp (Value → St → Prop)) : XConv Tryz.prog false (convK Tryz.prog 92 43) 92 43 (.pointer (some ⟨a, 0, none⟩)) s K = K.K (.pointer (some ⟨a, 0, none⟩)) s := by
  obtain ⟨j, hj, hs⟩ := infoB
  have e : convK Tryz.prog 92 43 = .other := by kernel_rfl
  rw [e]
  exact wpS_from_unsafe (src := 92) (dst := 43) ⟨a, 0, none⟩ (by kernel_rfl) (by kernel_rfl) hj (at_of_h h) Tryz.Builder_Extra_169.liesBuilder K.K
theorem copyCheck_c (B : World) (a : Nat) (p v : Value) (s : St) (R : Value → St → Prop) (hp : p = .pointer none ∨ p = .pointer (some ⟨a, 0, none⟩)) (hb : s.h a = some (.cells #[p, v] 46)) (h : ∀ n, s.n ≤ n → R (.tuple #[]) ((s.upd a (.cells #[.pointer (some ⟨a, 0, none⟩), v] 46)).more n)) : CallOK Tryz.prog B 30 #[.pointer (some ⟨a, 0, none⟩)] s R := by
  rcases hp with rfl | rfl
  · refine call_of (.base Tryz.prog B) (fun _ => none) mixed Tryz.func30 rfl (by simp [Tryz.ntmps30]) (by kernel_rfl) fun hw => ?_
    simp (maxSteps := 2000000) -dsimp (disch := omega) only [hb, conv_to hb (Nat.zero_lt_succ 1), conv_from hb, call55, same_run, ↓Tryz.ntmps30, ↓res30, ↓xpre0, xpost0, xpost1, xpost2, xpost3, facts0, facts1, calls0, St.wf.none hw, Nat.add_assoc, ↓reduceIte, Nat.reduceEqDiff, Nat.reduceMul, Nat.reduceAdd, Nat.reduceSub, Nat.reduceLeDiff, Nat.reduceLT, Int.reduceBEq, Int.reduceBNe, Int.reduceEq, Int.reduceNe, Int.reduceLT, Int.reduceLE, Int.reduceToNat, Int.reduceAdd, Int.reduceSub, Int.reduceMul, Int.cast_ofNat_Int]
    exact drop_ext (upd_wf hw hb _) (Ext.refl _) (fun n hn => h n hn)
  · obtain ⟨j, hj, _⟩ := infoB
    have hra : ∀ (x y : Operand) (K : Kp (Value → St → Prop)), XRaw Tryz.prog false (boolOp true) 43 x y (.pointer (some ⟨a, 0, none⟩)) (.pointer (some ⟨a, 0, none⟩)) s K = K.K (.bool (opOf true true)) s :=
      fun x y K => XRaw_ptr_same true (by kernel_rfl) hj x y _ K
    have hself : s.upd a (.cells #[.pointer (some ⟨a, 0, none⟩), v] 46) = s := by
      cases s; simp only [St.upd, St.mk.injEq, true_and, and_true]; funext d; simp only [TX.upd]; split
      · rename_i e; subst e; exact hb.symm
      · rfl
    rw [hself] at h
    refine call_of (.base Tryz.prog B) (fun _ => none) mixed Tryz.func30 rfl (by simp [Tryz.ntmps30]) (by kernel_rfl) fun hw => ?_
    simp (maxSteps := 2000000) -dsimp (disch := omega) only [hb, hra, ↓Tryz.ntmps30, ↓res30, ↓xpre0, xpost0, xpost1, xpost2, xpost3, facts0, facts1, calls0, St.wf.none hw, Nat.add_assoc, ↓reduceIte, Nat.reduceEqDiff, Nat.reduceMul, Nat.reduceAdd, Nat.reduceSub, Nat.reduceLeDiff, Nat.reduceLT, Int.reduceBEq, Int.reduceBNe, Int.reduceEq, Int.reduceNe, Int.reduceLT, Int.reduceLE, Int.reduceToNat, Int.reduceAdd, Int.reduceSub, Int.reduceMul, Int.cast_ofNat_Int]
    exact drop_ext hw (Ext.refl _) (fun n hn => h n hn)
/-- a builder at a, of one's own, that holds bytes; its row lies from lo on -/
def Bld (s : St) (a lo : Nat) (acc : Bs) : Prop := ∃ p v, (p = .pointer none ∨ p = .pointer (some ⟨a, 0, none⟩)) ∧ s.h a = some (.cells #[p, v] 46) ∧ SlH s lo [a] 5 1 v ((byteVals acc).map fun v => [v])
def ccSp : Spec where
  run args s K := ∃ (a : Nat) (p v : Value), args = #[.pointer (some ⟨a, 0, none⟩)] ∧ (p = .pointer none ∨ p = .pointer (some ⟨a, 0, none⟩)) ∧ s.h a = some (.cells #[p, v] 46) ∧ ∀ n, s.n ≤ n → K.K (.tuple #[]) ((s.upd a (.cells #[.pointer (some ⟨a, 0, none⟩), v] 46)).more n)
  mono args s K K' h := fun ⟨a, p, v, h1, h2, h3, h4⟩ => ⟨a, p, v, h1, h2, h3, fun n hn => h _ _ (h4 n hn)⟩
theorem cc_c (B : World) : ∀ args s K, ccSp.run args s K → CallOK Tryz.prog B 30 args s K.K := by
  rintro args s K ⟨a, p, v, rfl, h1, h2, h3⟩
  exact copyCheck_c B a p v s _ h1 h2 h3
noncomputable def eWS (B : World) : Env Tryz.prog := (Env.base Tryz.prog B).ext 30 ccSp (cc_c B)
theorem eWS_30 (B : World) (args : Array Value) (s : St) (K : Kp (Value → St → Prop)) : XCallOK Tryz.prog (eWS B) 30 args s K = ccSp.run args s K := rfl
theorem drop_self {t : St} {R : Value → St → Prop} {v : Value} (hw : t.wf) (h : R v t) : Drop R v t := ⟨t, Le.refl hw, h⟩
theorem writeString_c (B : World) (a lo : Nat) (acc l : Bs) (s : St) (R : Value → St → Prop) (hlo : lo ≤ s.n) (hal : a < lo) (hb : Bld s a lo acc) (hlen : acc.length + l.length ≤ 140737488355328)
    (h : ∀ s', s'.σ = s.σ → s.n ≤ s'.n → (∀ c, c < lo → c ≠ a → s'.h c = s.h c) → Bld s' a lo (acc ++ l) → R (.tuple #[.int .i64 l.length, .nilIface]) s') : CallOK Tryz.prog B 14 #[.pointer (some ⟨a, 0, none⟩), str l] s R := by
  obtain ⟨p, v, h1, h2, h3⟩ := hb
  refine call_of (eWS B) (fun _ => none) mixed Tryz.func14 rfl (by simp [Tryz.ntmps14]) (by kernel_rfl) fun hw => ?_
  simp (maxSteps := 2000000) -dsimp (disch := omega) only [eWS_30, ↓Tryz.ntmps14, ↓res14, ↓xpre0, xpost0, xpost1, xpost2, xpost3, facts0, facts1, calls0, St.wf.none hw, Nat.add_assoc, ↓reduceIte, Nat.reduceEqDiff, Nat.reduceMul, Nat.reduceAdd, Nat.reduceSub, Nat.reduceLeDiff, Nat.reduceLT, Int.reduceBEq, Int.reduceBNe, Int.reduceEq, Int.reduceNe, Int.reduceLT, Int.reduceLE, Int.reduceToNat, Int.reduceAdd, Int.reduceSub, Int.reduceMul, Int.cast_ofNat_Int]
  refine ⟨a, p, v, rfl, h1, h2, ?_⟩
  intro n hn
  obtain ⟨base, c, rfl⟩ := h3.slice
  simp (maxSteps := 2000000) -dsimp (disch := omega) only [↓Tryz.ntmps14, ↓res14, ↓xpre0, xpost0, xpost1, xpost2, xpost3, facts0, facts1, calls0, St.wf.none hw, Nat.add_assoc, ↓reduceIte, Nat.reduceEqDiff, Nat.reduceMul, Nat.reduceAdd, Nat.reduceSub, Nat.reduceLeDiff, Nat.reduceLT, Int.reduceBEq, Int.reduceBNe, Int.reduceEq, Int.reduceNe, Int.reduceLT, Int.reduceLE, Int.reduceToNat, Int.reduceAdd, Int.reduceSub, Int.reduceMul, Int.cast_ofNat_Int]
  refine append_bytes (lo := lo) (av := [a]) (acc := acc) (h3.keep ?_ ?_) ?_ ?_ hlen ?_
  · simp (maxSteps := 2000000) -dsimp (disch := omega) only [↓xpre0, xpost0, xpost1, xpost2, xpost3, facts0, facts1, calls0, St.wf.none hw, Nat.add_assoc, ↓reduceIte, Nat.reduceEqDiff, Nat.reduceMul, Nat.reduceAdd, Nat.reduceSub, Nat.reduceLeDiff, Nat.reduceLT, Int.reduceBEq, Int.reduceBNe, Int.reduceEq, Int.reduceNe, Int.reduceLT, Int.reduceLE, Int.reduceToNat, Int.reduceAdd, Int.reduceSub, Int.reduceMul, Int.cast_ofNat_Int]
    try omega
  · intro d hd1 hd2 hd3
    simp only [List.mem_cons, List.not_mem_nil, or_false] at hd2
    simp (maxSteps := 2000000) -dsimp (disch := omega) only [hd2, ↓xpre0, xpost0, xpost1, xpost2, xpost3, facts0, facts1, calls0, St.wf.none hw, Nat.add_assoc, ↓reduceIte, Nat.reduceEqDiff, Nat.reduceMul, Nat.reduceAdd, Nat.reduceSub, Nat.reduceLeDiff, Nat.reduceLT, Int.reduceBEq, Int.reduceBNe, Int.reduceEq, Int.reduceNe, Int.reduceLT, Int.reduceLE, Int.reduceToNat, Int.reduceAdd, Int.reduceSub, Int.reduceMul, Int.cast_ofNat_Int]
  · simp (maxSteps := 2000000) -dsimp (disch := omega) only [↓xpre0, xpost0, xpost1, xpost2, xpost3, facts0, facts1, calls0, St.wf.none hw, Nat.add_assoc, ↓reduceIte, Nat.reduceEqDiff, Nat.reduceMul, Nat.reduceAdd, Nat.reduceSub, Nat.reduceLeDiff, Nat.reduceLT, Int.reduceBEq, Int.reduceBNe, Int.reduceEq, Int.reduceNe, Int.reduceLT, Int.reduceLE, Int.reduceToNat, Int.reduceAdd, Int.reduceSub, Int.reduceMul, Int.cast_ofNat_Int]
    try omega
  · intro d hd
    simp only [List.mem_cons, List.not_mem_nil, or_false] at hd
    simp (maxSteps := 2000000) -dsimp (disch := omega) only [↓xpre0, xpost0, xpost1, xpost2, xpost3, facts0, facts1, calls0, St.wf.none hw, Nat.add_assoc, ↓reduceIte, Nat.reduceEqDiff, Nat.reduceMul, Nat.reduceAdd, Nat.reduceSub, Nat.reduceLeDiff, Nat.reduceLT, Int.reduceBEq, Int.reduceBNe, Int.reduceEq, Int.reduceNe, Int.reduceLT, Int.reduceLE, Int.reduceToNat, Int.reduceAdd, Int.reduceSub, Int.reduceMul, Int.cast_ofNat_Int]
    try omega
  · intro v' t' hsl hk
    have m1 : t'.h a = some (.cells #[.pointer (some ⟨a, 0, none⟩), .slice base ((byteVals acc).map fun v => [v]).length c] 46) := by
      rw [hk.h a (.inr (by simp))]
      simp (maxSteps := 2000000) -dsimp (disch := omega) only [↓xpre0, xpost0, xpost1, xpost2, xpost3, facts0, facts1, calls0, St.wf.none hw, Nat.add_assoc, ↓reduceIte, Nat.reduceEqDiff, Nat.reduceMul, Nat.reduceAdd, Nat.reduceSub, Nat.reduceLeDiff, Nat.reduceLT, Int.reduceBEq, Int.reduceBNe, Int.reduceEq, Int.reduceNe, Int.reduceLT, Int.reduceLE, Int.reduceToNat, Int.reduceAdd, Int.reduceSub, Int.reduceMul, Int.cast_ofNat_Int]
    have hwt : t'.wf := hk.wf (more_wf (upd_wf hw h2 _) hn)
    obtain ⟨base', c', rfl⟩ := hsl.slice
    simp (maxSteps := 2000000) -dsimp (disch := omega) only [m1, ↓Tryz.ntmps14, ↓res14, ↓xpre0, xpost0, xpost1, xpost2, xpost3, facts0, facts1, calls0, St.wf.none hw, Nat.add_assoc, ↓reduceIte, Nat.reduceEqDiff, Nat.reduceMul, Nat.reduceAdd, Nat.reduceSub, Nat.reduceLeDiff, Nat.reduceLT, Int.reduceBEq, Int.reduceBNe, Int.reduceEq, Int.reduceNe, Int.reduceLT, Int.reduceLE, Int.reduceToNat, Int.reduceAdd, Int.reduceSub, Int.reduceMul, Int.cast_ofNat_Int]
    refine drop_self (upd_wf hwt m1 _) (h _ ?_ ?_ ?_ ⟨_, _, .inr rfl, ?_, hsl.keep ?_ ?_⟩)
    · have := hk.σ
      simp (maxSteps := 2000000) -dsimp (disch := omega) only [↓xpre0, xpost0, xpost1, xpost2, xpost3, facts0, facts1, calls0, St.wf.none hw, Nat.add_assoc, ↓reduceIte, Nat.reduceEqDiff, Nat.reduceMul, Nat.reduceAdd, Nat.reduceSub, Nat.reduceLeDiff, Nat.reduceLT, Int.reduceBEq, Int.reduceBNe, Int.reduceEq, Int.reduceNe, Int.reduceLT, Int.reduceLE, Int.reduceToNat, Int.reduceAdd, Int.reduceSub, Int.reduceMul, Int.cast_ofNat_Int]
      exact this
    · have := hk.n
      simp (maxSteps := 2000000) -dsimp (disch := omega) only [↓xpre0, xpost0, xpost1, xpost2, xpost3, facts0, facts1, calls0, St.wf.none hw, Nat.add_assoc, ↓reduceIte, Nat.reduceEqDiff, Nat.reduceMul, Nat.reduceAdd, Nat.reduceSub, Nat.reduceLeDiff, Nat.reduceLT, Int.reduceBEq, Int.reduceBNe, Int.reduceEq, Int.reduceNe, Int.reduceLT, Int.reduceLE, Int.reduceToNat, Int.reduceAdd, Int.reduceSub, Int.reduceMul, Int.cast_ofNat_Int]
      simp only [more_n] at this; omega
    · intro d hd1 hd2
      have := hk.h d (.inl hd1)
      simp (maxSteps := 2000000) -dsimp (disch := omega) only [this, hd2, ↓xpre0, xpost0, xpost1, xpost2, xpost3, facts0, facts1, calls0, St.wf.none hw, Nat.add_assoc, ↓reduceIte, Nat.reduceEqDiff, Nat.reduceMul, Nat.reduceAdd, Nat.reduceSub, Nat.reduceLeDiff, Nat.reduceLT, Int.reduceBEq, Int.reduceBNe, Int.reduceEq, Int.reduceNe, Int.reduceLT, Int.reduceLE, Int.reduceToNat, Int.reduceAdd, Int.reduceSub, Int.reduceMul, Int.cast_ofNat_Int]
    · simp (maxSteps := 2000000) -dsimp (disch := omega) only [↓xpre0, xpost0, xpost1, xpost2, xpost3, facts0, facts1, calls0, St.wf.none hw, Nat.add_assoc, ↓reduceIte, Nat.reduceEqDiff, Nat.reduceMul, Nat.reduceAdd, Nat.reduceSub, Nat.reduceLeDiff, Nat.reduceLT, Int.reduceBEq, Int.reduceBNe, Int.reduceEq, Int.reduceNe, Int.reduceLT, Int.reduceLE, Int.reduceToNat, Int.reduceAdd, Int.reduceSub, Int.reduceMul, Int.cast_ofNat_Int]
    · simp (maxSteps := 2000000) -dsimp (disch := omega) only [↓xpre0, xpost0, xpost1, xpost2, xpost3, facts0, facts1, calls0, St.wf.none hw, Nat.add_assoc, ↓reduceIte, Nat.reduceEqDiff, Nat.reduceMul, Nat.reduceAdd, Nat.reduceSub, Nat.reduceLeDiff, Nat.reduceLT, Int.reduceBEq, Int.reduceBNe, Int.reduceEq, Int.reduceNe, Int.reduceLT, Int.reduceLE, Int.reduceToNat, Int.reduceAdd, Int.reduceSub, Int.reduceMul, Int.cast_ofNat_Int]
      try omega
    · intro d hd1 hd2 hd3
      simp only [List.mem_cons, List.not_mem_nil, or_false] at hd2
      simp (maxSteps := 2000000) -dsimp (disch := omega) only [hd2, ↓xpre0, xpost0, xpost1, xpost2, xpost3, facts0, facts1, calls0, St.wf.none hw, Nat.add_assoc, ↓reduceIte, Nat.reduceEqDiff, Nat.reduceMul, Nat.reduceAdd, Nat.reduceSub, Nat.reduceLeDiff, Nat.reduceLT, Int.reduceBEq, Int.reduceBNe, Int.reduceEq, Int.reduceNe, Int.reduceLT, Int.reduceLE, Int.reduceToNat, Int.reduceAdd, Int.reduceSub, Int.reduceMul, Int.cast_ofNat_Int]
def pl15 : Nat → Option DPlan := fun i => if i = 1 then some (tks [0, 1, 2, 3, 5, 6, 7, 8, 9] (.one 4 [5, 6, 7, 8, 9] (.one 10 [] (tks [11] .done)))) else none
theorem pl15_1 : pl15 1 = some (tks [0, 1, 2, 3, 5, 6, 7, 8, 9] (.one 4 [5, 6, 7, 8, 9] (.one 10 [] (tks [11] .done)))) := rfl
theorem string_c (B : World) (a lo : Nat) (acc : Bs) (s : St) (R : Value → St → Prop) (hal : a < lo) (hb : Bld s a lo acc) (hlen : acc.length ≤ 140737488355328)
    (h0 : acc = [] → s.h a = some (.cells #[.pointer none, .slice none 0 0] 46))
    (h : ∀ s', s'.σ = s.σ → s.n ≤ s'.n → (∀ c, c < lo → s'.h c = s.h c) → R (str acc) s') : CallOK Tryz.prog B 15 #[.pointer (some ⟨a, 0, none⟩)] s R := by
  by_cases hne : acc = []
  · subst hne
    have m := h0 rfl
    refine call_of (.base Tryz.prog B) pl15 mixed Tryz.func15 rfl (by simp [Tryz.ntmps15]) (by kernel_rfl) fun hw => ?_
    simp (maxSteps := 2000000) -dsimp (disch := omega) only [pl15_1, m, XBuiltin_sliceData (P := Tryz.prog) (B := Env.base Tryz.prog B) _ _ _ none 0 0 _ (.inl rfl), XBuiltin_usNone, ↓Tryz.ntmps15, ↓res15, ↓xpre0, xpost0, xpost1, xpost2, xpost3, facts0, facts1, calls0, St.wf.none hw, Nat.add_assoc, ↓reduceIte, Nat.reduceEqDiff, Nat.reduceMul, Nat.reduceAdd, Nat.reduceSub, Nat.reduceLeDiff, Nat.reduceLT, Int.reduceBEq, Int.reduceBNe, Int.reduceEq, Int.reduceNe, Int.reduceLT, Int.reduceLE, Int.reduceToNat, Int.reduceAdd, Int.reduceSub, Int.reduceMul, Int.cast_ofNat_Int]
    exact drop_self hw (h s rfl (Nat.le_refl _) (fun _ _ => rfl))
  · obtain ⟨p, v, h1, h2, h3⟩ := hb
    rcases h3 with ⟨hx, _⟩ | ⟨b, c, rest, rfl, hlb, hbn, hbav, hcells, hlen2, hrest, hrw⟩
    · cases acc <;> simp [byteVals] at hx hne
    · have hln : ((byteVals acc).map fun v => [v]).length = acc.length := by simp [byteVals]
      have hfl : ((byteVals acc).map fun v => [v]).flatten = byteVals acc := by
        have : ∀ l : Bs, ((byteVals l).map fun v => [v]).flatten = byteVals l := by
          intro l; induction l with
          | nil => rfl
          | cons x l ih => simp only [byteVals, List.map_cons, List.flatten_cons, List.singleton_append] at ih ⊢; rw [ih]
        exact this acc
      rw [hln] at h2 hlen2 hrest
      rw [hfl] at hcells
      have hl1 : 1 ≤ acc.length := by cases acc <;> simp_all
      have hsd := fun (ts : Array TypeId) (ty : TypeId) (cs : List Bool) (dt : Bool) (K : Kp (Value → St → Prop)) => XBuiltin_sliceData (P := Tryz.prog) (B := Env.base Tryz.prog B) (dt := dt) (s := s) ts ty cs (some ⟨b, 0, none⟩) acc.length c K (.inr (by omega))
      have hus := fun (it ty : TypeId) (cs : List Bool) (dt : Bool) (K : Kp (Value → St → Prop)) => XBuiltin_usRow (P := Tryz.prog) (B := Env.base Tryz.prog B) (dt := dt) (s := s) 65 it ty 5 cs (by kernel_rfl) (by kernel_rfl) b acc rest hne (by omega) hcells K
      refine call_of (.base Tryz.prog B) pl15 mixed Tryz.func15 rfl (by simp [Tryz.ntmps15]) (by kernel_rfl) fun hw => ?_
      simp (maxSteps := 2000000) -dsimp (disch := omega) only [pl15_1, h2, hsd, hus, ↓Tryz.ntmps15, ↓res15, ↓xpre0, xpost0, xpost1, xpost2, xpost3, facts0, facts1, calls0, St.wf.none hw, Nat.add_assoc, ↓reduceIte, Nat.reduceEqDiff, Nat.reduceMul, Nat.reduceAdd, Nat.reduceSub, Nat.reduceLeDiff, Nat.reduceLT, Int.reduceBEq, Int.reduceBNe, Int.reduceEq, Int.reduceNe, Int.reduceLT, Int.reduceLE, Int.reduceToNat, Int.reduceAdd, Int.reduceSub, Int.reduceMul, Int.cast_ofNat_Int]
      exact drop_self (upd_wf hw hcells _) (h _ rfl (Nat.le_refl _) (fun d hd => upd_h_ne _ (by omega)))
end Go.Proofs.TX
