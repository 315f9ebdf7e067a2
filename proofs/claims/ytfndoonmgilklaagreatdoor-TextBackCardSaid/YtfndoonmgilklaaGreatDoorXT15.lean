/- The text layer's functions: read. -/
import Derived.Test.YtfndoonmgilklaaGreatDoorXT14
import Derived.Test.YtfndoonmgilklaaGreatDoorXOps9
import Derived.Test.YtfndoonmgilklaaGreatDoorXTLaw2
set_option linter.unusedSimpArgs false
set_option linter.unusedVariables false
set_option maxRecDepth 100000
set_option maxHeartbeats 4000000
namespace Go.Proofs.TX
open Go
theorem atoiN_of {l : Bs} {n : Int} (h : numberS l = some n) : atoiN l = n := by
  unfold numberS at h
  split at h
  · rename_i v hv
    split at h
    · cases h; simp [atoiN, hv]
    · cases h
  · cases h
/-- a field's word, read by the program: is it good, and the op behind it -/
def readP (o : OpS) (c : Int) (l : Bs) : Bool × OpS :=
  if c = 112 then (if (numberS l).isSome = true ∧ 0 ≤ atoiN l ∧ atoiN l ≤ 255 then (true, { o with policy := atoiN l }) else (false, o))
  else if c = 119 then ((readW l).isSome, { o with w := ((readW l).getD 0 : Nat) })
  else if c = 118 then (decide (l ≠ [63]) && decide (valText (valS l).1 (valS l).2 = l), { o with vk := (valS l).1, vx := (valS l).2 })
  else (if (numberS l).isSome = true then (true, withS o c (atoiN l)) else (false, o))
def textF : List Value → Option Value
  | [.agg c] => (match c.toList with
    | [.int .i64 k, .int .i64 x] => some (str (valText k x))
    | _ => none)
  | _ => none
theorem text_c (B : World) (hB : Good B) : ∀ args s K, (Spec.fn textF).run args s K → CallOK Tryz.prog B 28 args s K.K := by
  refine fn_intro fun l v hF s R h => ?_
  unfold textF at hF
  split at hF
  · rename_i c
    split at hF
    · rename_i k x hc
      cases hF
      have e : c = #[.int .i64 k, .int .i64 x] := by rw [← Array.toArray_toList (xs := c), hc]
      subst e
      exact text_c' B hB k x s R h
    · cases hF
  · cases hF
noncomputable def eRead (B : World) (hB : Good B) : Env Tryz.prog := (((((Env.base Tryz.prog B).ext 47 (.fn numberF) (number_c B hB)).ext 48 (.fn readF) (read_c B)).ext 49 (.fn valF) (val_c B hB)).ext 50 (.fn spotF) (spot_c B)).ext 28 (.fn textF) (text_c B hB)
theorem eRead_47 (B : World) (hB : Good B) {l : Bs} (hl : l.length ≤ 281474976710656) (s : St) (K : Kp (Value → St → Prop)) : XCallOK Tryz.prog (eRead B hB) 47 #[str l] s K =
    ∀ k, K.K (.tuple #[.int .i64 (atoiN l), .bool (numberS l).isSome]) (s.more (s.n + k)) :=
  (show _ = (Spec.fn numberF).run #[str l] s K from rfl).trans (Spec.fn_run (by simp [numberF, bs_size, hl]) s K)
theorem eRead_48 (B : World) (hB : Good B) (l : Bs) (s : St) (K : Kp (Value → St → Prop)) : XCallOK Tryz.prog (eRead B hB) 48 #[str l] s K =
    ∀ k, K.K (match readW l with | some w => .tuple #[.int .u64 (w : Nat), .int .i64 0] | none => .tuple #[.int .u64 0, .int .i64 4]) (s.more (s.n + k)) := rfl
theorem eRead_49 (B : World) (hB : Good B) {l : Bs} (hl : l.length ≤ 281474976710656) (s : St) (K : Kp (Value → St → Prop)) : XCallOK Tryz.prog (eRead B hB) 49 #[str l] s K =
    ∀ k, K.K (.agg #[.int .i64 (valS l).1, .int .i64 (valS l).2]) (s.more (s.n + k)) :=
  (show _ = (Spec.fn valF).run #[str l] s K from rfl).trans (Spec.fn_run (by simp [valF, bs_size, hl]) s K)
theorem eRead_50 (B : World) (hB : Good B) (b : Nat) (c : Int) (s : St) (K : Kp (Value → St → Prop)) : XCallOK Tryz.prog (eRead B hB) 50 #[.pointer (some ⟨b, 0, none⟩), .int .i32 c] s K = ∀ k, K.K (.pointer (some ⟨b, spotOff c, none⟩)) (s.more (s.n + k)) := rfl
theorem eRead_28 (B : World) (hB : Good B) (k x : Int) (s : St) (K : Kp (Value → St → Prop)) : XCallOK Tryz.prog (eRead B hB) 28 #[.agg #[.int .i64 k, .int .i64 x]] s K = ∀ j, K.K (str (valText k x)) (s.more (s.n + j)) := rfl
theorem spot_set (o : OpS) (c n : Int) (h1 : c ≠ 112) : o.cells.set (spotOff c) (.int .i64 n) = (withS o c n).cells ∧ spotOff c < o.cells.length := by
  unfold spotOff withS
  (repeat' split) <;> first | exact ⟨rfl, by simp [OpS.cells]⟩ | contradiction
theorem read22_c (B : World) (hB : Good B) (o : OpS) (c : Int) (l : Bs) (b : Nat) (s : St) (R : Value → St → Prop) (hl : l.length ≤ 281474976710656)
    (hb : s.h b = some (.cells o.cells.toArray 35)) (h : ∀ n, s.n ≤ n → R (.bool (readP o c l).1) ((s.upd b (.cells (readP o c l).2.cells.toArray 35)).more n)) :
    CallOK Tryz.prog B 22 #[.pointer (some ⟨b, 0, none⟩), .int .i32 c, str l] s R := by
  have hinj := fun a : Bs => propext (bs_inj l a)
  have hinj2 := fun a : Bs => propext (bs_inj a l)
  have hupd : s.upd b (.cells o.cells.toArray 35) = s := by
    cases s; simp only [St.upd, St.mk.injEq, true_and, and_true]; funext d; simp only [TX.upd]; split
    · rename_i e; subst e; exact hb.symm
    · rfl
  have hkeep : ∀ {t : St} {v : Value}, s.wf → Ext s t → (readP o c l).2 = o → v = .bool (readP o c l).1 → Drop R v t := by
    intro t v hw he e1 e2
    subst e2
    rw [e1, hupd] at h
    exact drop_ext hw he h
  refine call_of (eRead B hB) (fun _ => none) mixed Tryz.func22 rfl (by simp [Tryz.ntmps22]) (by kernel_rfl) fun hw => ?_
  have hlt := hw.lt_h hb
  by_cases h1 : c = 112
  · subst h1
    cases hn : (numberS l).isSome with
    | false =>
      simp (maxSteps := 2000000) -dsimp (disch := omega) only [eRead_47 B hB hl, hn, ↓Tryz.ntmps22, ↓res22, ↓xpre0, xpost0, xpost1, xpost2, xpost3, facts0, facts1, calls0, St.wf.none hw, Nat.add_assoc, ↓reduceIte, Nat.reduceEqDiff, Nat.reduceMul, Nat.reduceAdd, Nat.reduceSub, Nat.reduceLeDiff, Nat.reduceLT, Int.reduceBEq, Int.reduceBNe, Int.reduceEq, Int.reduceNe, Int.reduceLT, Int.reduceLE, Int.reduceToNat, Int.reduceAdd, Int.reduceSub, Int.reduceMul, Int.cast_ofNat_Int]
      intro k
      refine hkeep hw ?_ ?_ ?_
      · (repeat (first | with_reducible exact Ext.refl _ | with_reducible assumption | refine Ext.lay ?_ _ _ _ (by omega) (by first | omega | (simp only [lay_n, upd_n, more_n, froz_n]; omega)) | refine Ext.upd ?_ _ _ (by omega) | refine Ext.more ?_ _ (by first | omega | (simp only [lay_n, upd_n, more_n, froz_n]; omega)) | refine Ext.frz ?_ hw _ _ _ (by omega) (by first | omega | (simp only [lay_n, upd_n, more_n, froz_n]; omega))))
      · simp [readP, hn]
      · simp [readP, hn]
    | true =>
      simp (maxSteps := 2000000) -dsimp (disch := omega) only [eRead_47 B hB hl, hn, hb, OpS.cells, ↓Tryz.ntmps22, ↓res22, ↓xpre0, xpost0, xpost1, xpost2, xpost3, facts0, facts1, calls0, St.wf.none hw, Nat.add_assoc, ↓reduceIte, Nat.reduceEqDiff, Nat.reduceMul, Nat.reduceAdd, Nat.reduceSub, Nat.reduceLeDiff, Nat.reduceLT, Int.reduceBEq, Int.reduceBNe, Int.reduceEq, Int.reduceNe, Int.reduceLT, Int.reduceLE, Int.reduceToNat, Int.reduceAdd, Int.reduceSub, Int.reduceMul, Int.cast_ofNat_Int]
      intro k
      refine ⟨fun h0 => ⟨fun h2 => ?_, fun h2 => ?_⟩, fun h0 => ?_⟩
      · have e : readP o 112 l = (true, { o with policy := atoiN l }) := by unfold readP; rw [if_pos rfl, if_pos ⟨hn, h0, h2⟩]
        rw [wrap_u8 h0 h2]
        simp only [e] at h
        refine drop_upd hw hb (o := .cells ({ o with policy := atoiN l } : OpS).cells.toArray 35) ?_ h
        (repeat (first | with_reducible exact Ext.refl _ | with_reducible assumption | refine Ext.upd2 ?_ _ _ | refine Ext.lay ?_ _ _ _ (by omega) (by first | omega | (simp only [lay_n, upd_n, more_n, froz_n]; omega)) | refine Ext.upd ?_ _ _ (by omega) | refine Ext.more ?_ _ (by first | omega | (simp only [lay_n, upd_n, more_n, froz_n]; omega)) | refine Ext.frz ?_ hw _ _ _ (by omega) (by first | omega | (simp only [lay_n, upd_n, more_n, froz_n]; omega))))
      · refine hkeep hw ?_ ?_ ?_
        · (repeat (first | with_reducible exact Ext.refl _ | with_reducible assumption | refine Ext.lay ?_ _ _ _ (by omega) (by first | omega | (simp only [lay_n, upd_n, more_n, froz_n]; omega)) | refine Ext.upd ?_ _ _ (by omega) | refine Ext.more ?_ _ (by first | omega | (simp only [lay_n, upd_n, more_n, froz_n]; omega)) | refine Ext.frz ?_ hw _ _ _ (by omega) (by first | omega | (simp only [lay_n, upd_n, more_n, froz_n]; omega))))
        · unfold readP; rw [if_pos rfl, if_neg (by omega)]
        · unfold readP; rw [if_pos rfl, if_neg (by omega)]
      · refine hkeep hw ?_ ?_ ?_
        · (repeat (first | with_reducible exact Ext.refl _ | with_reducible assumption | refine Ext.lay ?_ _ _ _ (by omega) (by first | omega | (simp only [lay_n, upd_n, more_n, froz_n]; omega)) | refine Ext.upd ?_ _ _ (by omega) | refine Ext.more ?_ _ (by first | omega | (simp only [lay_n, upd_n, more_n, froz_n]; omega)) | refine Ext.frz ?_ hw _ _ _ (by omega) (by first | omega | (simp only [lay_n, upd_n, more_n, froz_n]; omega))))
        · unfold readP; rw [if_pos rfl, if_neg (by omega)]
        · unfold readP; rw [if_pos rfl, if_neg (by omega)]
  · by_cases h2 : c = 119
    · subst h2
      cases hr : readW l with
      | none =>
        simp (maxSteps := 2000000) -dsimp (disch := omega) only [eRead_47 B hB hl, eRead_48, hr, hb, OpS.cells, ↓Tryz.ntmps22, ↓res22, ↓xpre0, xpost0, xpost1, xpost2, xpost3, facts0, facts1, calls0, St.wf.none hw, Nat.add_assoc, ↓reduceIte, Nat.reduceEqDiff, Nat.reduceMul, Nat.reduceAdd, Nat.reduceSub, Nat.reduceLeDiff, Nat.reduceLT, Int.reduceBEq, Int.reduceBNe, Int.reduceEq, Int.reduceNe, Int.reduceLT, Int.reduceLE, Int.reduceToNat, Int.reduceAdd, Int.reduceSub, Int.reduceMul, Int.cast_ofNat_Int]
        intro k k'
        have e : readP o 119 l = (false, { o with w := 0 }) := by unfold readP; rw [if_neg (by omega), if_pos rfl, hr]; rfl
        simp only [e] at h
        refine drop_upd hw hb (o := .cells ({ o with w := 0 } : OpS).cells.toArray 35) ?_ h
        (repeat (first | with_reducible exact Ext.refl _ | with_reducible assumption | refine Ext.upd2 ?_ _ _ | refine Ext.lay ?_ _ _ _ (by omega) (by first | omega | (simp only [lay_n, upd_n, more_n, froz_n]; omega)) | refine Ext.upd ?_ _ _ (by omega) | refine Ext.more ?_ _ (by first | omega | (simp only [lay_n, upd_n, more_n, froz_n]; omega)) | refine Ext.frz ?_ hw _ _ _ (by omega) (by first | omega | (simp only [lay_n, upd_n, more_n, froz_n]; omega))))
      | some w =>
        simp (maxSteps := 2000000) -dsimp (disch := omega) only [eRead_47 B hB hl, eRead_48, hr, hb, OpS.cells, ↓Tryz.ntmps22, ↓res22, ↓xpre0, xpost0, xpost1, xpost2, xpost3, facts0, facts1, calls0, St.wf.none hw, Nat.add_assoc, ↓reduceIte, Nat.reduceEqDiff, Nat.reduceMul, Nat.reduceAdd, Nat.reduceSub, Nat.reduceLeDiff, Nat.reduceLT, Int.reduceBEq, Int.reduceBNe, Int.reduceEq, Int.reduceNe, Int.reduceLT, Int.reduceLE, Int.reduceToNat, Int.reduceAdd, Int.reduceSub, Int.reduceMul, Int.cast_ofNat_Int]
        intro k k'
        have e : readP o 119 l = (true, { o with w := (w : Int) }) := by unfold readP; rw [if_neg (by omega), if_pos rfl, hr]; rfl
        simp only [e] at h
        refine drop_upd hw hb (o := .cells ({ o with w := (w : Int) } : OpS).cells.toArray 35) ?_ h
        (repeat (first | with_reducible exact Ext.refl _ | with_reducible assumption | refine Ext.upd2 ?_ _ _ | refine Ext.lay ?_ _ _ _ (by omega) (by first | omega | (simp only [lay_n, upd_n, more_n, froz_n]; omega)) | refine Ext.upd ?_ _ _ (by omega) | refine Ext.more ?_ _ (by first | omega | (simp only [lay_n, upd_n, more_n, froz_n]; omega)) | refine Ext.frz ?_ hw _ _ _ (by omega) (by first | omega | (simp only [lay_n, upd_n, more_n, froz_n]; omega))))
    · by_cases h3 : c = 118
      · subst h3
        have e : readP o 118 l = (decide (l ≠ [63]) && decide (valText (valS l).1 (valS l).2 = l), { o with vk := (valS l).1, vx := (valS l).2 }) := by
          unfold readP; rw [if_neg (by omega), if_neg (by omega), if_pos rfl]
        simp only [e] at h
        by_cases hq : l = [63]
        · subst hq
          simp (maxSteps := 2000000) -dsimp (disch := omega) only [eRead_47 B hB hl, eRead_49 B hB hl, eRead_28, hb, OpS.cells, hinj, hinj2, eq_self_iff_true, decide_true, ↓Tryz.ntmps22, ↓res22, ↓xpre0, xpost0, xpost1, xpost2, xpost3, facts0, facts1, calls0, St.wf.none hw, Nat.add_assoc, ↓reduceIte, Nat.reduceEqDiff, Nat.reduceMul, Nat.reduceAdd, Nat.reduceSub, Nat.reduceLeDiff, Nat.reduceLT, Int.reduceBEq, Int.reduceBNe, Int.reduceEq, Int.reduceNe, Int.reduceLT, Int.reduceLE, Int.reduceToNat, Int.reduceAdd, Int.reduceSub, Int.reduceMul, Int.cast_ofNat_Int]
          intros
          refine drop_upd hw hb (o := .cells ({ o with vk := (valS [63]).1, vx := (valS [63]).2 } : OpS).cells.toArray 35) ?_ ?_
          · (repeat (first | with_reducible exact Ext.refl _ | with_reducible assumption | refine Ext.upd2 ?_ _ _ | refine Ext.lay ?_ _ _ _ (by omega) (by first | omega | (simp only [lay_n, upd_n, more_n, froz_n]; omega)) | refine Ext.upd ?_ _ _ (by omega) | refine Ext.more ?_ _ (by first | omega | (simp only [lay_n, upd_n, more_n, froz_n]; omega)) | refine Ext.frz ?_ hw _ _ _ (by omega) (by first | omega | (simp only [lay_n, upd_n, more_n, froz_n]; omega))))
          · simpa using h
        · simp (maxSteps := 2000000) -dsimp (disch := omega) only [eRead_47 B hB hl, eRead_49 B hB hl, eRead_28, hb, OpS.cells, hinj, hinj2, hq, decide_false, ↓Tryz.ntmps22, ↓res22, ↓xpre0, xpost0, xpost1, xpost2, xpost3, facts0, facts1, calls0, St.wf.none hw, Nat.add_assoc, ↓reduceIte, Nat.reduceEqDiff, Nat.reduceMul, Nat.reduceAdd, Nat.reduceSub, Nat.reduceLeDiff, Nat.reduceLT, Int.reduceBEq, Int.reduceBNe, Int.reduceEq, Int.reduceNe, Int.reduceLT, Int.reduceLE, Int.reduceToNat, Int.reduceAdd, Int.reduceSub, Int.reduceMul, Int.cast_ofNat_Int]
          intros
          refine drop_upd hw hb (o := .cells ({ o with vk := (valS l).1, vx := (valS l).2 } : OpS).cells.toArray 35) ?_ ?_
          · (repeat (first | with_reducible exact Ext.refl _ | with_reducible assumption | refine Ext.upd2 ?_ _ _ | refine Ext.lay ?_ _ _ _ (by omega) (by first | omega | (simp only [lay_n, upd_n, more_n, froz_n]; omega)) | refine Ext.upd ?_ _ _ (by omega) | refine Ext.more ?_ _ (by first | omega | (simp only [lay_n, upd_n, more_n, froz_n]; omega)) | refine Ext.frz ?_ hw _ _ _ (by omega) (by first | omega | (simp only [lay_n, upd_n, more_n, froz_n]; omega))))
          · simpa [hq] using h
      · obtain ⟨hset, hlt2⟩ := spot_set o c (atoiN l) h1
        cases hn : (numberS l).isSome with
        | false =>
          simp (maxSteps := 2000000) -dsimp (disch := omega) only [eRead_47 B hB hl, hn, h1, h2, h3, decide_false, ↓Tryz.ntmps22, ↓res22, ↓xpre0, xpost0, xpost1, xpost2, xpost3, facts0, facts1, calls0, St.wf.none hw, Nat.add_assoc, ↓reduceIte, Nat.reduceEqDiff, Nat.reduceMul, Nat.reduceAdd, Nat.reduceSub, Nat.reduceLeDiff, Nat.reduceLT, Int.reduceBEq, Int.reduceBNe, Int.reduceEq, Int.reduceNe, Int.reduceLT, Int.reduceLE, Int.reduceToNat, Int.reduceAdd, Int.reduceSub, Int.reduceMul, Int.cast_ofNat_Int]
          intro k
          refine hkeep hw ?_ ?_ ?_
          · (repeat (first | with_reducible exact Ext.refl _ | with_reducible assumption | refine Ext.lay ?_ _ _ _ (by omega) (by first | omega | (simp only [lay_n, upd_n, more_n, froz_n]; omega)) | refine Ext.upd ?_ _ _ (by omega) | refine Ext.more ?_ _ (by first | omega | (simp only [lay_n, upd_n, more_n, froz_n]; omega)) | refine Ext.frz ?_ hw _ _ _ (by omega) (by first | omega | (simp only [lay_n, upd_n, more_n, froz_n]; omega))))
          · unfold readP; rw [if_neg h1, if_neg h2, if_neg h3, if_neg (by simp [hn])]
          · unfold readP; rw [if_neg h1, if_neg h2, if_neg h3, if_neg (by simp [hn])]
        | true =>
          simp (maxSteps := 2000000) -dsimp (disch := omega) only [eRead_47 B hB hl, eRead_50, hn, hb, h1, h2, h3, decide_false, Nat.add_zero, hset, hlt2, ↓Tryz.ntmps22, ↓res22, ↓xpre0, xpost0, xpost1, xpost2, xpost3, facts0, facts1, calls0, St.wf.none hw, Nat.add_assoc, ↓reduceIte, Nat.reduceEqDiff, Nat.reduceMul, Nat.reduceAdd, Nat.reduceSub, Nat.reduceLeDiff, Nat.reduceLT, Int.reduceBEq, Int.reduceBNe, Int.reduceEq, Int.reduceNe, Int.reduceLT, Int.reduceLE, Int.reduceToNat, Int.reduceAdd, Int.reduceSub, Int.reduceMul, Int.cast_ofNat_Int]
          intros
          have e : readP o c l = (true, withS o c (atoiN l)) := by unfold readP; rw [if_neg h1, if_neg h2, if_neg h3, if_pos hn]
          simp only [e] at h
          refine drop_upd hw hb (o := .cells (withS o c (atoiN l)).cells.toArray 35) ?_ h
          (repeat (first | with_reducible exact Ext.refl _ | with_reducible assumption | refine Ext.upd2 ?_ _ _ | refine Ext.lay ?_ _ _ _ (by omega) (by first | omega | (simp only [lay_n, upd_n, more_n, froz_n]; omega)) | refine Ext.upd ?_ _ _ (by omega) | refine Ext.more ?_ _ (by first | omega | (simp only [lay_n, upd_n, more_n, froz_n]; omega)) | refine Ext.frz ?_ hw _ _ _ (by omega) (by first | omega | (simp only [lay_n, upd_n, more_n, froz_n]; omega))))
end Go.Proofs.TX
