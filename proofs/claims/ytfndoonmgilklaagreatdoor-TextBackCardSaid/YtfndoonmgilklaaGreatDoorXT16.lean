/- The text layer's functions: Line. -/
import Derived.Test.YtfndoonmgilklaaGreatDoorXT2
import Derived.Test.YtfndoonmgilklaaGreatDoorXT15
import Derived.Test.YtfndoonmgilklaaGreatDoorXTLaw3
set_option linter.unusedSimpArgs false
set_option linter.unusedVariables false
set_option maxRecDepth 100000
set_option maxHeartbeats 4000000
namespace Go.Proofs.TX
open Go
/-- show, as a specification -/
def showSp : Spec where
  run args s K := ∃ (o : OpS) (c : Int), args = #[o.val, .int .i32 c] ∧ o.ok ∧ ∀ n, s.n ≤ n → K.K (.tuple #[str (showS o c), .bool (showOk o c)]) (s.more n)
  mono args s K K' h := fun ⟨o, c, h1, h2, h3⟩ => ⟨o, c, h1, h2, fun n hn => h _ _ (h3 n hn)⟩
theorem show_c (B : World) (hB : Good B) : ∀ args s K, showSp.run args s K → CallOK Tryz.prog B 25 args s K.K := by
  rintro args s K ⟨o, c, rfl, ho, h⟩
  exact show_c' B hB o ho c s _ h
def plainSp : Spec where
  run args s K := ∃ o : OpS, args = #[o.val] ∧ ∀ n, s.n ≤ n → K.K (plainS o).val (s.more n)
  mono args s K K' h := fun ⟨o, h1, h3⟩ => ⟨o, h1, fun n hn => h _ _ (h3 n hn)⟩
theorem plain_c2 (B : World) : ∀ args s K, plainSp.run args s K → CallOK Tryz.prog B 24 args s K.K := by
  rintro args s K ⟨o, rfl, h⟩
  exact plain_c' B o s _ h
theorem OpS.val_inj {a b : OpS} (h : a.val = b.val) : a = b := by
  cases a; cases b
  simpa [OpS.val, OpS.cells] using h
theorem plain_run (o : OpS) (s : St) (K : Kp (Value → St → Prop)) : plainSp.run #[o.val] s K = ∀ k, K.K (plainS o).val (s.more (s.n + k)) := by
  simp only [plainSp, eq_iff_iff]
  constructor
  · rintro ⟨o', h1, h2⟩ k
    have : o = o' := OpS.val_inj (by simpa using h1)
    subst this
    exact h2 _ (by omega)
  · intro h
    exact ⟨o, rfl, fun n hn => by obtain ⟨k, rfl⟩ : ∃ k, n = s.n + k := ⟨n - s.n, by omega⟩; exact h k⟩
theorem show_run {o : OpS} (ho : o.ok) (c : Int) (s : St) (K : Kp (Value → St → Prop)) : showSp.run #[o.val, .int .i32 c] s K = ∀ k, K.K (.tuple #[str (showS o c), .bool (showOk o c)]) (s.more (s.n + k)) := by
  simp only [showSp, eq_iff_iff]
  constructor
  · rintro ⟨o', c', h1, _, h2⟩ k
    have h1' : o.val = o'.val ∧ c = c' := by simpa using h1
    obtain ⟨h1', rfl⟩ := h1'
    have : o = o' := OpS.val_inj h1'
    subst this
    exact h2 _ (by omega)
  · intro h
    exact ⟨o, c, rfl, ho, fun n hn => by obtain ⟨k, rfl⟩ : ∃ k, n = s.n + k := ⟨n - s.n, by omega⟩; exact h k⟩
noncomputable def eLine (B : World) (hB : Good B) : Env Tryz.prog := (((((Env.base Tryz.prog B).ext 23 (.fn nameF) (name_c B)).ext 24 plainSp (plain_c2 B)).ext 21 (.fn usesF) (uses_c B)).ext 25 showSp (show_c B hB)).ext 26 joinSp (join_c B)
theorem eLine_23 (B : World) (hB : Good B) (d : Int) (s : St) (K : Kp (Value → St → Prop)) : XCallOK Tryz.prog (eLine B hB) 23 #[.int .i64 d] s K = ∀ k, K.K (str (opName d)) (s.more (s.n + k)) := rfl
theorem eLine_21 (B : World) (hB : Good B) (d : Int) (s : St) (K : Kp (Value → St → Prop)) : XCallOK Tryz.prog (eLine B hB) 21 #[.int .i64 d] s K = ∀ k, K.K (str (opUses d)) (s.more (s.n + k)) := rfl
theorem eLine_24 (B : World) (hB : Good B) (o : OpS) (s : St) (K : Kp (Value → St → Prop)) : XCallOK Tryz.prog (eLine B hB) 24 #[.agg #[.int .i64 o.dO, .int .i64 o.h, .int .i64 o.g, .int .i64 o.i, .int .i64 o.vk, .int .i64 o.vx, .int .u64 o.w, .int .i64 o.kind, .int .i64 o.fields, .int .i64 o.raws, .int .u8 o.policy]] s K = ∀ k, K.K (plainS o).val (s.more (s.n + k)) :=
  (show _ = plainSp.run #[o.val] s K from rfl).trans (plain_run o s K)
theorem eLine_25 (B : World) (hB : Good B) {o : OpS} (ho : o.ok) (c : Int) (s : St) (K : Kp (Value → St → Prop)) : XCallOK Tryz.prog (eLine B hB) 25 #[.agg #[.int .i64 o.dO, .int .i64 o.h, .int .i64 o.g, .int .i64 o.i, .int .i64 o.vk, .int .i64 o.vx, .int .u64 o.w, .int .i64 o.kind, .int .i64 o.fields, .int .i64 o.raws, .int .u8 o.policy], .int .i32 c] s K =
    ∀ k, K.K (.tuple #[str (showS o c), .bool (showOk o c)]) (s.more (s.n + k)) :=
  (show _ = showSp.run #[o.val, .int .i32 c] s K from rfl).trans (show_run ho c s K)
theorem eLine_26 (B : World) (hB : Good B) (args : Array Value) (s : St) (K : Kp (Value → St → Prop)) : XCallOK Tryz.prog (eLine B hB) 26 args s K = joinSp.run args s K := rfl
def pl12 : Nat → Option DPlan := fun i => if i = 2 then some (tks [0, 1, 2, 3, 5] (.one 4 [5] (tks [6, 7] .done))) else none
theorem pl12_2 : pl12 2 = some (tks [0, 1, 2, 3, 5] (.one 4 [5] (tks [6, 7] .done))) := rfl
/-- what Line hands back -/
def lineV (o : OpS) : Value := match lineS o with | some t => .tuple #[str t, .int .i64 0] | none => .tuple #[str [], .int .i64 1]
theorem line_c' (B : World) (hB : Good B) (o : OpS) (ho : o.ok) (s : St) (R : Value → St → Prop) (h : ∀ n, s.n ≤ n → R (lineV o) (s.more n)) : CallOK Tryz.prog B 12 #[o.val] s R := by
  have hinj := fun a b : Bs => propext (bs_inj a b)
  have bad : ∀ {t : St}, s.wf → Ext s t → lineS o = none → Drop R (.tuple #[str [], .int .i64 1]) t := by
    intro t hw he e
    refine drop_ext hw he fun n hn => ?_
    have := h n hn
    rw [lineV, e] at this; exact this
  by_cases hn : opName o.dO = []
  · refine call_of (eLine B hB) pl12 mixed Tryz.func12 rfl (by simp [Tryz.ntmps12]) (by kernel_rfl) fun hw => ?_
    simp (maxSteps := 2000000) -dsimp (disch := omega) only [pl12_2, OpS.cells, eLine_23, hn, eq_self_iff_true, decide_true, hinj, ↓Tryz.ntmps12, ↓res12, ↓xpre0, xpost0, xpost1, xpost2, xpost3, facts0, facts1, calls0, St.wf.none hw, Nat.add_assoc, ↓reduceIte, Nat.reduceEqDiff, Nat.reduceMul, Nat.reduceAdd, Nat.reduceSub, Nat.reduceLeDiff, Nat.reduceLT, Int.reduceBEq, Int.reduceBNe, Int.reduceEq, Int.reduceNe, Int.reduceLT, Int.reduceLE, Int.reduceToNat, Int.reduceAdd, Int.reduceSub, Int.reduceMul, Int.cast_ofNat_Int]
    intro k
    refine bad hw ?_ (by unfold lineS; rw [if_pos (.inl hn)])
    (repeat (first | with_reducible exact Ext.refl _ | with_reducible assumption | refine Ext.lay ?_ _ _ _ (by omega) (by first | omega | (simp only [lay_n, upd_n, more_n, froz_n]; omega)) | refine Ext.upd ?_ _ _ (by omega) | refine Ext.more ?_ _ (by first | omega | (simp only [lay_n, upd_n, more_n, froz_n]; omega)) | refine Ext.frz ?_ hw _ _ _ (by omega) (by first | omega | (simp only [lay_n, upd_n, more_n, froz_n]; omega))))
  · cases hp : eqOp (plainS o) o with
    | false =>
      refine call_of (eLine B hB) pl12 mixed Tryz.func12 rfl (by simp [Tryz.ntmps12]) (by kernel_rfl) fun hw => ?_
      simp (maxSteps := 2000000) -dsimp (disch := omega) only [pl12_2, OpS.cells, eLine_23, eLine_24, hn, decide_false, hinj, ↓eqOp_eqL, hp, ↓Tryz.ntmps12, ↓res12, ↓xpre0, xpost0, xpost1, xpost2, xpost3, facts0, facts1, calls0, St.wf.none hw, Nat.add_assoc, ↓reduceIte, Nat.reduceEqDiff, Nat.reduceMul, Nat.reduceAdd, Nat.reduceSub, Nat.reduceLeDiff, Nat.reduceLT, Int.reduceBEq, Int.reduceBNe, Int.reduceEq, Int.reduceNe, Int.reduceLT, Int.reduceLE, Int.reduceToNat, Int.reduceAdd, Int.reduceSub, Int.reduceMul, Int.cast_ofNat_Int]
      intros
      refine bad hw ?_ (by unfold lineS; rw [if_pos (.inr (.inl hp))])
      (repeat (first | with_reducible exact Ext.refl _ | with_reducible assumption | refine Ext.lay ?_ _ _ _ (by omega) (by first | omega | (simp only [lay_n, upd_n, more_n, froz_n]; omega)) | refine Ext.upd ?_ _ _ (by omega) | refine Ext.more ?_ _ (by first | omega | (simp only [lay_n, upd_n, more_n, froz_n]; omega)) | refine Ext.frz ?_ hw _ _ _ (by omega) (by first | omega | (simp only [lay_n, upd_n, more_n, froz_n]; omega))))
    | true =>
      have hpe := (eqOp_iff _ _).1 hp
      refine call_of (eLine B hB) pl12 mixed Tryz.func12 rfl (by simp [Tryz.ntmps12]) (by kernel_rfl) fun hw => ?_
      simp (maxSteps := 2000000) -dsimp (disch := omega) only [pl12_2, OpS.cells, eLine_23, eLine_24, eLine_21, hn, decide_false, hinj, hpe, ↓eqOp_eqL, eqOp_self, ↓Tryz.ntmps12, ↓res12, ↓xpre0, xpost0, xpost1, xpost2, xpost3, facts0, facts1, calls0, St.wf.none hw, Nat.add_assoc, ↓reduceIte, Nat.reduceEqDiff, Nat.reduceMul, Nat.reduceAdd, Nat.reduceSub, Nat.reduceLeDiff, Nat.reduceLT, Int.reduceBEq, Int.reduceBNe, Int.reduceEq, Int.reduceNe, Int.reduceLT, Int.reduceLE, Int.reduceToNat, Int.reduceAdd, Int.reduceSub, Int.reduceMul, Int.cast_ofNat_Int]
      intro k1 k2 k3
      refine loop_wf (pl := pl12) mixed (by kernel_rfl) (fun m fr t => ∃ p v it, p ≤ (opUses o.dO).length ∧ m = (opUses o.dO).length - p ∧ fr.ds = [] ∧ Ext s t ∧ s.n < it ∧ it < t.n ∧
        fr.ρ 1 = .pointer (some ⟨s.n, 0, none⟩) ∧ fr.ρ 5 = v ∧ fr.ρ 26 = .pointer (some ⟨it, 0, none⟩) ∧ t.h s.n = some (.cells o.cells.toArray 35) ∧ t.h it = some (.stringIter ⟨(opUses o.dO).toArray⟩ p) ∧
        SlH t s.n [s.n, it] 9 1 v (rowsOf (opName o.dO :: wordsS o ((opUses o.dO).take p))) ∧ ∀ c ∈ (opUses o.dO).take p, showOk o c.toNat = true) (opUses o.dO).length ?_ ?_
      · refine ⟨0, _, _, Nat.zero_le _, rfl, rfl, ?_, ?_, ?_, rfl, rfl, rfl, ?_, ?_, .inr ⟨_, _, [], rfl, ?_, ?_, ?_, ?_, ?_, ?_, ?_⟩, ?_⟩
        · (repeat (first | with_reducible exact Ext.refl _ | with_reducible assumption | refine Ext.lay ?_ _ _ _ (by omega) (by first | omega | (simp only [lay_n, upd_n, more_n, froz_n]; omega)) | refine Ext.upd ?_ _ _ (by omega) | refine Ext.more ?_ _ (by first | omega | (simp only [lay_n, upd_n, more_n, froz_n]; omega)) | refine Ext.frz ?_ hw _ _ _ (by omega) (by first | omega | (simp only [lay_n, upd_n, more_n, froz_n]; omega))))
        · omega
        · simp (maxSteps := 2000000) -dsimp (disch := omega) only [↓xpre0, xpost0, xpost1, xpost2, xpost3, facts0, facts1, calls0, St.wf.none hw, Nat.add_assoc, ↓reduceIte, Nat.reduceEqDiff, Nat.reduceMul, Nat.reduceAdd, Nat.reduceSub, Nat.reduceLeDiff, Nat.reduceLT, Int.reduceBEq, Int.reduceBNe, Int.reduceEq, Int.reduceNe, Int.reduceLT, Int.reduceLE, Int.reduceToNat, Int.reduceAdd, Int.reduceSub, Int.reduceMul, Int.cast_ofNat_Int]
          try omega
        · simp (maxSteps := 2000000) -dsimp (disch := omega) only [OpS.cells, ↓xpre0, xpost0, xpost1, xpost2, xpost3, facts0, facts1, calls0, St.wf.none hw, Nat.add_assoc, ↓reduceIte, Nat.reduceEqDiff, Nat.reduceMul, Nat.reduceAdd, Nat.reduceSub, Nat.reduceLeDiff, Nat.reduceLT, Int.reduceBEq, Int.reduceBNe, Int.reduceEq, Int.reduceNe, Int.reduceLT, Int.reduceLE, Int.reduceToNat, Int.reduceAdd, Int.reduceSub, Int.reduceMul, Int.cast_ofNat_Int]
        · simp (maxSteps := 2000000) -dsimp (disch := omega) only [↓xpre0, xpost0, xpost1, xpost2, xpost3, facts0, facts1, calls0, St.wf.none hw, Nat.add_assoc, ↓reduceIte, Nat.reduceEqDiff, Nat.reduceMul, Nat.reduceAdd, Nat.reduceSub, Nat.reduceLeDiff, Nat.reduceLT, Int.reduceBEq, Int.reduceBNe, Int.reduceEq, Int.reduceNe, Int.reduceLT, Int.reduceLE, Int.reduceToNat, Int.reduceAdd, Int.reduceSub, Int.reduceMul, Int.cast_ofNat_Int]
        · first | omega | (simp (maxSteps := 2000000) -dsimp (disch := omega) only [↓xpre0, xpost0, xpost1, xpost2, xpost3, facts0, facts1, calls0, St.wf.none hw, Nat.add_assoc, ↓reduceIte, Nat.reduceEqDiff, Nat.reduceMul, Nat.reduceAdd, Nat.reduceSub, Nat.reduceLeDiff, Nat.reduceLT, Int.reduceBEq, Int.reduceBNe, Int.reduceEq, Int.reduceNe, Int.reduceLT, Int.reduceLE, Int.reduceToNat, Int.reduceAdd, Int.reduceSub, Int.reduceMul, Int.cast_ofNat_Int])
        · simp (maxSteps := 2000000) -dsimp (disch := omega) only [↓xpre0, xpost0, xpost1, xpost2, xpost3, facts0, facts1, calls0, St.wf.none hw, Nat.add_assoc, ↓reduceIte, Nat.reduceEqDiff, Nat.reduceMul, Nat.reduceAdd, Nat.reduceSub, Nat.reduceLeDiff, Nat.reduceLT, Int.reduceBEq, Int.reduceBNe, Int.reduceEq, Int.reduceNe, Int.reduceLT, Int.reduceLE, Int.reduceToNat, Int.reduceAdd, Int.reduceSub, Int.reduceMul, Int.cast_ofNat_Int]
          try omega
        · simp <;> omega
        · simp (maxSteps := 2000000) -dsimp (disch := omega) only [rowsOf, wordsS, List.take_zero, List.flatten_cons, List.flatten_nil, ↓xpre0, xpost0, xpost1, xpost2, xpost3, facts0, facts1, calls0, St.wf.none hw, Nat.add_assoc, ↓reduceIte, Nat.reduceEqDiff, Nat.reduceMul, Nat.reduceAdd, Nat.reduceSub, Nat.reduceLeDiff, Nat.reduceLT, Int.reduceBEq, Int.reduceBNe, Int.reduceEq, Int.reduceNe, Int.reduceLT, Int.reduceLE, Int.reduceToNat, Int.reduceAdd, Int.reduceSub, Int.reduceMul, Int.cast_ofNat_Int]
        · simp [rowsOf, wordsS]
        · simp [rowsOf, wordsS]
        · simp [rowsOf, wordsS]
        · simp
      · rintro m fr t ht ⟨p, v, it, hp1, rfl, hds, hext, hn1, hn2, h1, h5, h26, m1, m2, hsl, hsh⟩
        have hlen : ∀ l : Bs, (ByteArray.mk l.toArray).size = l.length := fun l => by simp [ByteArray.size]
        have hu4 := opUses_length o.dO
        obtain ⟨base, c, rfl⟩ := hsl.slice
        by_cases hlt : p < (opUses o.dO).length
        · have hdec := decode_ascii (opUses o.dO) p hlt (opUses_ascii o.dO _ (List.getElem_mem hlt))
          have hsn := wordsS_snoc o (opUses o.dO) p hlt
          have htk := List.take_succ_eq_append_getElem hlt
          generalize hg : (opUses o.dO)[p] = q at hdec hsn htk
          cases hok : showOk o q.toNat with
          | false =>
            simp (maxSteps := 2000000) -dsimp (disch := omega) only [h1, h5, h26, m1, m2, hds, OpS.cells, hlen, hdec, if_pos hlt, eLine_25 B hB ho, hok, ↓Tryz.ntmps12, ↓res12, ↓xpre0, xpost0, xpost1, xpost2, xpost3, facts0, facts1, calls0, St.wf.none hw, Nat.add_assoc, ↓reduceIte, Nat.reduceEqDiff, Nat.reduceMul, Nat.reduceAdd, Nat.reduceSub, Nat.reduceLeDiff, Nat.reduceLT, Int.reduceBEq, Int.reduceBNe, Int.reduceEq, Int.reduceNe, Int.reduceLT, Int.reduceLE, Int.reduceToNat, Int.reduceAdd, Int.reduceSub, Int.reduceMul, Int.cast_ofNat_Int]
            intro k
            refine bad hw ?_ (by unfold lineS; rw [if_pos (.inr (.inr (showOk_false hok)))])
            (repeat (first | with_reducible exact Ext.refl _ | with_reducible assumption | refine Ext.lay ?_ _ _ _ (by omega) (by first | omega | (simp only [lay_n, upd_n, more_n, froz_n]; omega)) | refine Ext.upd ?_ _ _ (by omega) | refine Ext.more ?_ _ (by first | omega | (simp only [lay_n, upd_n, more_n, froz_n]; omega)) | refine Ext.frz ?_ hw _ _ _ (by omega) (by first | omega | (simp only [lay_n, upd_n, more_n, froz_n]; omega))))
          | true =>
            simp (maxSteps := 2000000) -dsimp (disch := omega) only [h1, h5, h26, m1, m2, hds, OpS.cells, hlen, hdec, if_pos hlt, eLine_25 B hB ho, hok, ↓Tryz.ntmps12, ↓res12, ↓xpre0, xpost0, xpost1, xpost2, xpost3, facts0, facts1, calls0, St.wf.none hw, Nat.add_assoc, ↓reduceIte, Nat.reduceEqDiff, Nat.reduceMul, Nat.reduceAdd, Nat.reduceSub, Nat.reduceLeDiff, Nat.reduceLT, Int.reduceBEq, Int.reduceBNe, Int.reduceEq, Int.reduceNe, Int.reduceLT, Int.reduceLE, Int.reduceToNat, Int.reduceAdd, Int.reduceSub, Int.reduceMul, Int.cast_ofNat_Int]
            intro k
            refine append_one (lo := s.n) (av := [s.n, it]) (rows := rowsOf (opName o.dO :: wordsS o ((opUses o.dO).take p))) (row := [str (showS o q.toNat)]) (hsl.keep ?_ ?_) ?_ ?_ rfl ?_ rfl (by omega) ?_ ?_ ?_
            · simp (maxSteps := 2000000) -dsimp (disch := omega) only [↓xpre0, xpost0, xpost1, xpost2, xpost3, facts0, facts1, calls0, St.wf.none hw, Nat.add_assoc, ↓reduceIte, Nat.reduceEqDiff, Nat.reduceMul, Nat.reduceAdd, Nat.reduceSub, Nat.reduceLeDiff, Nat.reduceLT, Int.reduceBEq, Int.reduceBNe, Int.reduceEq, Int.reduceNe, Int.reduceLT, Int.reduceLE, Int.reduceToNat, Int.reduceAdd, Int.reduceSub, Int.reduceMul, Int.cast_ofNat_Int]
              try omega
            · intro d hd1 hd2 hd3
              simp only [List.mem_cons, List.not_mem_nil, or_false, not_or] at hd2
              simp (maxSteps := 2000000) -dsimp (disch := omega) only [hd2.2, ↓xpre0, xpost0, xpost1, xpost2, xpost3, facts0, facts1, calls0, St.wf.none hw, Nat.add_assoc, ↓reduceIte, Nat.reduceEqDiff, Nat.reduceMul, Nat.reduceAdd, Nat.reduceSub, Nat.reduceLeDiff, Nat.reduceLT, Int.reduceBEq, Int.reduceBNe, Int.reduceEq, Int.reduceNe, Int.reduceLT, Int.reduceLE, Int.reduceToNat, Int.reduceAdd, Int.reduceSub, Int.reduceMul, Int.cast_ofNat_Int]
            · simp (maxSteps := 2000000) -dsimp (disch := omega) only [↓xpre0, xpost0, xpost1, xpost2, xpost3, facts0, facts1, calls0, St.wf.none hw, Nat.add_assoc, ↓reduceIte, Nat.reduceEqDiff, Nat.reduceMul, Nat.reduceAdd, Nat.reduceSub, Nat.reduceLeDiff, Nat.reduceLT, Int.reduceBEq, Int.reduceBNe, Int.reduceEq, Int.reduceNe, Int.reduceLT, Int.reduceLE, Int.reduceToNat, Int.reduceAdd, Int.reduceSub, Int.reduceMul, Int.cast_ofNat_Int]
              try omega
            · intro d hd
              simp only [List.mem_cons, List.not_mem_nil, or_false] at hd
              simp (maxSteps := 2000000) -dsimp (disch := omega) only [↓xpre0, xpost0, xpost1, xpost2, xpost3, facts0, facts1, calls0, St.wf.none hw, Nat.add_assoc, ↓reduceIte, Nat.reduceEqDiff, Nat.reduceMul, Nat.reduceAdd, Nat.reduceSub, Nat.reduceLeDiff, Nat.reduceLT, Int.reduceBEq, Int.reduceBNe, Int.reduceEq, Int.reduceNe, Int.reduceLT, Int.reduceLE, Int.reduceToNat, Int.reduceAdd, Int.reduceSub, Int.reduceMul, Int.cast_ofNat_Int]
              try omega
            · rw [rdS_some]
              simp (maxSteps := 2000000) -dsimp (disch := omega) only [↓xpre0, xpost0, xpost1, xpost2, xpost3, facts0, facts1, calls0, St.wf.none hw, Nat.add_assoc, ↓reduceIte, Nat.reduceEqDiff, Nat.reduceMul, Nat.reduceAdd, Nat.reduceSub, Nat.reduceLeDiff, Nat.reduceLT, Int.reduceBEq, Int.reduceBNe, Int.reduceEq, Int.reduceNe, Int.reduceLT, Int.reduceLE, Int.reduceToNat, Int.reduceAdd, Int.reduceSub, Int.reduceMul, Int.cast_ofNat_Int]
            · intro v hv; simp at hv; subst hv; rfl
            · simp [rowsOf, wordsS]; omega
            · intro v' t' hsl' hk
              simp (maxSteps := 2000000) -dsimp (disch := omega) only [hds, h1, h26, ↓xpre0, xpost0, xpost1, xpost2, xpost3, facts0, facts1, calls0, St.wf.none hw, Nat.add_assoc, ↓reduceIte, Nat.reduceEqDiff, Nat.reduceMul, Nat.reduceAdd, Nat.reduceSub, Nat.reduceLeDiff, Nat.reduceLT, Int.reduceBEq, Int.reduceBNe, Int.reduceEq, Int.reduceNe, Int.reduceLT, Int.reduceLE, Int.reduceToNat, Int.reduceAdd, Int.reduceSub, Int.reduceMul, Int.cast_ofNat_Int]
              refine ⟨(opUses o.dO).length - (p + 1), by omega, p + 1, v', it, by omega, rfl, hk.ext ?_, hn1, Nat.lt_of_lt_of_le ?_ hk.n, rfl, rfl, ?_, ?_, ?_, ?_⟩
              · (repeat (first | with_reducible exact Ext.refl _ | with_reducible assumption | refine Ext.lay ?_ _ _ _ (by omega) (by first | omega | (simp only [lay_n, upd_n, more_n, froz_n]; omega)) | refine Ext.upd ?_ _ _ (by omega) | refine Ext.more ?_ _ (by first | omega | (simp only [lay_n, upd_n, more_n, froz_n]; omega)) | refine Ext.frz ?_ hw _ _ _ (by omega) (by first | omega | (simp only [lay_n, upd_n, more_n, froz_n]; omega))))
              · simp (maxSteps := 2000000) -dsimp (disch := omega) only [↓xpre0, xpost0, xpost1, xpost2, xpost3, facts0, facts1, calls0, St.wf.none hw, Nat.add_assoc, ↓reduceIte, Nat.reduceEqDiff, Nat.reduceMul, Nat.reduceAdd, Nat.reduceSub, Nat.reduceLeDiff, Nat.reduceLT, Int.reduceBEq, Int.reduceBNe, Int.reduceEq, Int.reduceNe, Int.reduceLT, Int.reduceLE, Int.reduceToNat, Int.reduceAdd, Int.reduceSub, Int.reduceMul, Int.cast_ofNat_Int]
                try omega
              · rw [hk.h s.n (.inr (by simp))]
                simp (maxSteps := 2000000) -dsimp (disch := omega) only [m1, ↓xpre0, xpost0, xpost1, xpost2, xpost3, facts0, facts1, calls0, St.wf.none hw, Nat.add_assoc, ↓reduceIte, Nat.reduceEqDiff, Nat.reduceMul, Nat.reduceAdd, Nat.reduceSub, Nat.reduceLeDiff, Nat.reduceLT, Int.reduceBEq, Int.reduceBNe, Int.reduceEq, Int.reduceNe, Int.reduceLT, Int.reduceLE, Int.reduceToNat, Int.reduceAdd, Int.reduceSub, Int.reduceMul, Int.cast_ofNat_Int]
              · rw [hk.h it (.inr (by simp))]
                simp (maxSteps := 2000000) -dsimp (disch := omega) only [↓xpre0, xpost0, xpost1, xpost2, xpost3, facts0, facts1, calls0, St.wf.none hw, Nat.add_assoc, ↓reduceIte, Nat.reduceEqDiff, Nat.reduceMul, Nat.reduceAdd, Nat.reduceSub, Nat.reduceLeDiff, Nat.reduceLT, Int.reduceBEq, Int.reduceBNe, Int.reduceEq, Int.reduceNe, Int.reduceLT, Int.reduceLE, Int.reduceToNat, Int.reduceAdd, Int.reduceSub, Int.reduceMul, Int.cast_ofNat_Int]
              · rw [hsn]
                have e : rowsOf (opName o.dO :: (wordsS o ((opUses o.dO).take p) ++ [showS o q.toNat])) = rowsOf (opName o.dO :: wordsS o ((opUses o.dO).take p)) ++ [[str (showS o q.toNat)]] := by simp [rowsOf]
                rw [e]; exact hsl'
              · rw [htk]
                intro c hc
                rcases List.mem_append.1 hc with hc | hc
                · exact hsh c hc
                · simp at hc; subst hc; exact hok
        · have hpe2 : (opUses o.dO).take p = opUses o.dO := List.take_of_length_le (by omega)
          rw [hpe2] at hsl hsh h5
          have hm := line_may hp hn hsh
          simp (maxSteps := 2000000) -dsimp (disch := omega) only [h1, h5, h26, m1, m2, hds, OpS.cells, hlen, if_neg hlt, eLine_26, ↓Tryz.ntmps12, ↓res12, ↓xpre0, xpost0, xpost1, xpost2, xpost3, facts0, facts1, calls0, St.wf.none hw, Nat.add_assoc, ↓reduceIte, Nat.reduceEqDiff, Nat.reduceMul, Nat.reduceAdd, Nat.reduceSub, Nat.reduceLeDiff, Nat.reduceLT, Int.reduceBEq, Int.reduceBNe, Int.reduceEq, Int.reduceNe, Int.reduceLT, Int.reduceLE, Int.reduceToNat, Int.reduceAdd, Int.reduceSub, Int.reduceMul, Int.cast_ofNat_Int]
          rcases hsl with ⟨hsl, _⟩ | ⟨b, c', rest, e, _, _, _, hc1, hc2, hc3, _⟩
          · simp [rowsOf] at hsl
          · cases e
            have hln : lineS o = some (opName o.dO ++ tailS o (opUses o.dO)) := by
              unfold lineS; rw [if_neg (by simp [hn, hp, hm])]
            have hjw := join_words o (opName o.dO) (opUses o.dO)
            refine ⟨b, c, (opName o.dO :: wordsS o (opUses o.dO)).map (fun l => ⟨l.toArray⟩), ⟨#[32]⟩, ?_, ?_, ?_, ?_, ?_, ?_, ?_⟩
            · simp only [rowsOf, List.length_map]
            · intro j x hx
              rw [List.getElem?_map] at hx
              cases hj : (opName o.dO :: wordsS o (opUses o.dO))[j]? with
              | none => rw [hj] at hx; cases hx
              | some y =>
                rw [hj] at hx; cases hx
                have := rowsOf_get _ j y hj rest
                simp only [St.ld, cellOf, at_of_h hc1]
                simpa using this
            · simp
            · simp [wordsS]; omega
            · simpa [rowsOf] using hc2
            · have e2 : ((opName o.dO :: wordsS o (opUses o.dO)).map (fun l : Bs => (⟨l.toArray⟩ : ByteArray))).map (fun b : ByteArray => b.data.toList) = opName o.dO :: wordsS o (opUses o.dO) := by
                rw [List.map_map]; exact List.map_id' _
              rw [e2]
              show (Lib.join _ [32]).length ≤ _
              rw [hjw, List.length_append]
              have := tailS_length ho (opUses o.dO)
              have := opName_length o.dO
              omega
            · intro n hn3
              have e2 : ((opName o.dO :: wordsS o (opUses o.dO)).map (fun l : Bs => (⟨l.toArray⟩ : ByteArray))).map (fun b : ByteArray => b.data.toList) = opName o.dO :: wordsS o (opUses o.dO) := by
                rw [List.map_map]; exact List.map_id' _
              have e3 : (⟨#[32]⟩ : ByteArray).data.toList = [32] := rfl
              rw [e2, e3, hjw]
              simp (maxSteps := 2000000) -dsimp (disch := omega) only [hds, ↓xpre0, xpost0, xpost1, xpost2, xpost3, facts0, facts1, calls0, St.wf.none hw, Nat.add_assoc, ↓reduceIte, Nat.reduceEqDiff, Nat.reduceMul, Nat.reduceAdd, Nat.reduceSub, Nat.reduceLeDiff, Nat.reduceLT, Int.reduceBEq, Int.reduceBNe, Int.reduceEq, Int.reduceNe, Int.reduceLT, Int.reduceLE, Int.reduceToNat, Int.reduceAdd, Int.reduceSub, Int.reduceMul, Int.cast_ofNat_Int]
              refine drop_ext hw ?_ (fun n hn => ?_)
              · (repeat (first | with_reducible exact Ext.refl _ | with_reducible assumption | refine Ext.lay ?_ _ _ _ (by omega) (by first | omega | (simp only [lay_n, upd_n, more_n, froz_n]; omega)) | refine Ext.upd ?_ _ _ (by omega) | refine Ext.more ?_ _ (by first | omega | (simp only [lay_n, upd_n, more_n, froz_n]; omega)) | refine Ext.frz ?_ hw _ _ _ (by omega) (by first | omega | (simp only [lay_n, upd_n, more_n, froz_n]; omega))))
              · have := h n hn
                rw [lineV, hln] at this; exact this
end Go.Proofs.TX
