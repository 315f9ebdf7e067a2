/- The document's layer 34: Number, val. -/
import Derived.Test.YtfndoonmgilklaaGreatDoorXR3
set_option linter.unusedSimpArgs false
set_option linter.unusedVariables false
set_option maxRecDepth 100000
set_option maxHeartbeats 4000000
namespace Go.Proofs.TX
open Go
theorem tail_extract (c : UInt8) (l : Bs) : (ByteArray.mk (c :: l).toArray).extract 1 (l.length + 1) = ⟨l.toArray⟩ := by
  apply ByteArray.ext
  rw [ByteArray.data_extract]
  simp
/-- what Number hands back: a number, and whether it is the text's -/
def NumOut (l : Bs) (x : Int) : Prop := i64ok x ∧ ∀ v, numberS l = some v → x = v
theorem decAcc_lt : ∀ (l : Bs) (acc n : Nat), decAcc acc l = some n → n < (acc + 1) * 10 ^ l.length
  | [], acc, n, h => by simp [decAcc] at h; subst h; simp
  | c :: l, acc, n, h => by
    rw [decAcc] at h
    split at h
    · rename_i hc
      have := decAcc_lt l _ _ h
      rw [List.length_cons, Nat.pow_succ, Nat.mul_comm (10 ^ l.length) 10, ← Nat.mul_assoc]
      refine Nat.lt_of_lt_of_le this (Nat.mul_le_mul_right _ ?_)
      omega
    · cases h
theorem number41_c (B : World) (l : Bs) (hl : l.length ≤ 281474976710656) (s : St) (R : Value → St → Prop) (h : ∀ n x, s.n ≤ n → NumOut l x → R (.tuple #[.int .i64 x, .bool (numberS l).isSome]) (s.more n)) : CallOK Tryz.prog B 41 #[str l] s R := by
  have hinj := fun a b : Bs => propext (bs_inj a b)
  have no : ∀ {t : St}, s.wf → Ext s t → numR l = none → Drop R (.tuple #[.int .i64 0, .bool false]) t := by
    intro t hw he e
    rw [numR_eq] at e
    refine drop_ext hw he fun n hn => ?_
    have := h n 0 hn ⟨by unfold i64ok; omega, fun v hv => by rw [e] at hv; cases hv⟩
    rw [e] at this; exact this
  have fin : ∀ {t : St} {x : Int}, s.wf → Ext s t → i64ok x → ∀ ok : Bool, (numR l).isSome = ok → (∀ v, numR l = some v → x = v) → Drop R (.tuple #[.int .i64 x, .bool ok]) t := by
    intro t x hw he hx ok hok hv
    rw [numR_eq] at hok hv
    refine drop_ext hw he fun n hn => ?_
    have := h n x hn ⟨hx, hv⟩
    rw [hok] at this; exact this
  have h0p : ∀ n : Nat, (0 : Int) < ((n + 1 : Nat) : Int) := fun n => by omega
  have h1p : ∀ n : Nat, (1 : Int) ≤ ((n + 2 : Nat) : Int) := fun n => by omega
  have h0q : ∀ n : Nat, (0 : Int) < ((n + 2 : Nat) : Int) := fun n => by omega
  cases l with
  | nil =>
    refine call_of (.base Tryz.prog B) (fun _ => none) mixed Tryz.func41 rfl (by simp [Tryz.ntmps41]) (by kernel_rfl) fun hw => ?_
    simp (maxSteps := 2000000) -dsimp (disch := omega) only [hinj, eq_self_iff_true, decide_true, Int.lt_irrefl, decide_false, ↓Tryz.ntmps41, ↓res41, ↓xpre0, xpost0, xpost1, xpost2, xpost3, facts0, facts1, calls0, St.wf.none hw, Nat.add_assoc, ↓reduceIte, Nat.reduceEqDiff, Nat.reduceMul, Nat.reduceAdd, Nat.reduceSub, Nat.reduceLeDiff, Nat.reduceLT, Int.reduceBEq, Int.reduceBNe, Int.reduceEq, Int.reduceNe, Int.reduceLT, Int.reduceLE, Int.reduceToNat, Int.reduceAdd, Int.reduceSub, Int.reduceMul, Int.cast_ofNat_Int]
    refine no hw ?_ rfl
    (repeat (first | with_reducible exact Ext.refl _ | with_reducible assumption | refine Ext.lay ?_ _ _ _ (by omega) (by first | omega | (simp only [lay_n, upd_n, more_n, froz_n]; omega)) | refine Ext.upd ?_ _ _ (by omega) | refine Ext.more ?_ _ (by first | omega | (simp only [lay_n, upd_n, more_n, froz_n]; omega)) | refine Ext.frz ?_ hw _ _ _ (by omega) (by first | omega | (simp only [lay_n, upd_n, more_n, froz_n]; omega))))
  | cons q r =>
    by_cases hq : q = 45
    · subst hq
      have hnr : numR (45 :: r) = numM true (45 :: r) r := by unfold numR; rw [if_pos List.head?_cons]; rfl
      have hq45 : ((45 : UInt8).toNat : Int) = 45 := rfl
      have hte := tail_extract 45 r
      cases r with
      | nil =>
        have hg : ([45] : Bs).toArray.getD 0 0 = 45 := rfl
        have hte : (ByteArray.mk #[45]).extract 1 1 = ⟨#[]⟩ := by decide
        refine call_of (.base Tryz.prog B) (fun _ => none) mixed Tryz.func41 rfl (by simp [Tryz.ntmps41]) (by kernel_rfl) fun hw => ?_
        simp (maxSteps := 2000000) -dsimp (disch := omega) only [hinj, hg, hq45, hte, eq_self_iff_true, decide_true, decide_false, Int.toNat_natCast, ↓Tryz.ntmps41, ↓res41, ↓xpre0, xpost0, xpost1, xpost2, xpost3, facts0, facts1, calls0, St.wf.none hw, Nat.add_assoc, ↓reduceIte, Nat.reduceEqDiff, Nat.reduceMul, Nat.reduceAdd, Nat.reduceSub, Nat.reduceLeDiff, Nat.reduceLT, Int.reduceBEq, Int.reduceBNe, Int.reduceEq, Int.reduceNe, Int.reduceLT, Int.reduceLE, Int.reduceToNat, Int.reduceAdd, Int.reduceSub, Int.reduceMul, Int.cast_ofNat_Int]
        refine no hw ?_ (by rw [hnr]; rfl)
        (repeat (first | with_reducible exact Ext.refl _ | with_reducible assumption | refine Ext.lay ?_ _ _ _ (by omega) (by first | omega | (simp only [lay_n, upd_n, more_n, froz_n]; omega)) | refine Ext.upd ?_ _ _ (by omega) | refine Ext.more ?_ _ (by first | omega | (simp only [lay_n, upd_n, more_n, froz_n]; omega)) | refine Ext.frz ?_ hw _ _ _ (by omega) (by first | omega | (simp only [lay_n, upd_n, more_n, froz_n]; omega))))
      | cons x r =>
        have hg2 : (x :: r).toArray.getD 0 0 = x := rfl
        have hg : (45 :: x :: r).toArray.getD 0 0 = 45 := rfl
        have hte : (ByteArray.mk (45 :: x :: r).toArray).extract 1 (r.length + 2) = ⟨(x :: r).toArray⟩ := tail_extract 45 (x :: r)
        have hne : ¬ (x :: r = ([] : Bs)) := by simp
        by_cases h19 : 19 < (r.length + 1)
        · have h19' : ((r.length + 1 : Nat) : Int) > 19 := by omega
          have hno : numR (45 :: x :: r) = none := by rw [hnr]; unfold numM; rw [if_pos (.inr (.inl (by simpa using h19)))]
          refine call_of (.base Tryz.prog B) (fun _ => none) mixed Tryz.func41 rfl (by simp [Tryz.ntmps41]) (by kernel_rfl) fun hw => ?_
          simp (maxSteps := 2000000) -dsimp (disch := omega) only [hinj, hg, hq45, h0p, h0q, h1p, hte, hg2, decide_true, decide_false, eq_self_iff_true, hne, Int.toNat_natCast, h19', ↓Tryz.ntmps41, ↓res41, ↓xpre0, xpost0, xpost1, xpost2, xpost3, facts0, facts1, calls0, St.wf.none hw, Nat.add_assoc, ↓reduceIte, Nat.reduceEqDiff, Nat.reduceMul, Nat.reduceAdd, Nat.reduceSub, Nat.reduceLeDiff, Nat.reduceLT, Int.reduceBEq, Int.reduceBNe, Int.reduceEq, Int.reduceNe, Int.reduceLT, Int.reduceLE, Int.reduceToNat, Int.reduceAdd, Int.reduceSub, Int.reduceMul, Int.cast_ofNat_Int]
          refine no hw ?_ hno
          (repeat (first | with_reducible exact Ext.refl _ | with_reducible assumption | refine Ext.lay ?_ _ _ _ (by omega) (by first | omega | (simp only [lay_n, upd_n, more_n, froz_n]; omega)) | refine Ext.upd ?_ _ _ (by omega) | refine Ext.more ?_ _ (by first | omega | (simp only [lay_n, upd_n, more_n, froz_n]; omega)) | refine Ext.frz ?_ hw _ _ _ (by omega) (by first | omega | (simp only [lay_n, upd_n, more_n, froz_n]; omega))))
        · have h19' : ¬ (((r.length + 1 : Nat) : Int) > 19) := by omega
          by_cases h48 : x = 48
          · subst h48
            have e48 : ((48 : UInt8).toNat : Int) = 48 := rfl
            have hnz : ¬ ((45 : UInt8) :: 48 :: r = [48]) := by simp
            have hno : numR (45 :: 48 :: r) = none := by rw [hnr]; unfold numM; rw [if_pos (.inr (.inr ⟨rfl, hnz⟩))]
            refine call_of (.base Tryz.prog B) (fun _ => none) mixed Tryz.func41 rfl (by simp [Tryz.ntmps41]) (by kernel_rfl) fun hw => ?_
            simp (maxSteps := 2000000) -dsimp (disch := omega) only [hinj, hg, hq45, h0p, h0q, h1p, hte, hg2, decide_true, decide_false, eq_self_iff_true, hne, Int.toNat_natCast, h19', e48, hnz, ↓Tryz.ntmps41, ↓res41, ↓xpre0, xpost0, xpost1, xpost2, xpost3, facts0, facts1, calls0, St.wf.none hw, Nat.add_assoc, ↓reduceIte, Nat.reduceEqDiff, Nat.reduceMul, Nat.reduceAdd, Nat.reduceSub, Nat.reduceLeDiff, Nat.reduceLT, Int.reduceBEq, Int.reduceBNe, Int.reduceEq, Int.reduceNe, Int.reduceLT, Int.reduceLE, Int.reduceToNat, Int.reduceAdd, Int.reduceSub, Int.reduceMul, Int.cast_ofNat_Int]
            refine no hw ?_ hno
            (repeat (first | with_reducible exact Ext.refl _ | with_reducible assumption | refine Ext.lay ?_ _ _ _ (by omega) (by first | omega | (simp only [lay_n, upd_n, more_n, froz_n]; omega)) | refine Ext.upd ?_ _ _ (by omega) | refine Ext.more ?_ _ (by first | omega | (simp only [lay_n, upd_n, more_n, froz_n]; omega)) | refine Ext.frz ?_ hw _ _ _ (by omega) (by first | omega | (simp only [lay_n, upd_n, more_n, froz_n]; omega))))
          · have e48 : ¬ ((x.toNat : Int) = 48) := by
              intro e
              have : x.toNat = (48 : UInt8).toNat := by have : (48 : UInt8).toNat = 48 := rfl; omega
              exact h48 (UInt8.toNat_inj.1 this)
            have g3 : (x :: r).head? = some 48 → (45 :: x :: r : Bs) = [48] := fun e => absurd (by simpa using e) h48
            refine call_of (.base Tryz.prog B) (fun _ => none) mixed Tryz.func41 rfl (by simp [Tryz.ntmps41]) (by kernel_rfl) fun hw => ?_
            simp (maxSteps := 2000000) -dsimp (disch := omega) only [hinj, hg, hq45, h0p, h0q, h1p, hte, hg2, decide_true, decide_false, eq_self_iff_true, hne, Int.toNat_natCast, h19', e48, ↓Tryz.ntmps41, ↓res41, ↓xpre0, xpost0, xpost1, xpost2, xpost3, facts0, facts1, calls0, St.wf.none hw, Nat.add_assoc, ↓reduceIte, Nat.reduceEqDiff, Nat.reduceMul, Nat.reduceAdd, Nat.reduceSub, Nat.reduceLeDiff, Nat.reduceLT, Int.reduceBEq, Int.reduceBNe, Int.reduceEq, Int.reduceNe, Int.reduceLT, Int.reduceLE, Int.reduceToNat, Int.reduceAdd, Int.reduceSub, Int.reduceMul, Int.cast_ofNat_Int]
            refine loop_wf (pl := fun _ => none) mixed (by kernel_rfl) (fun m fr t => ∃ i acc, i ≤ (x :: r).length ∧ m = (x :: r).length - i ∧ t = s ∧ fr.ds = [] ∧ fr.ρ 4 = .bool true ∧ fr.ρ 5 = str (x :: r) ∧ fr.ρ 6 = .int .u64 (acc : Nat) ∧ fr.ρ 7 = .int .i64 (i : Nat) ∧ acc < 10 ^ i ∧ decAcc 0 (x :: r) = decAcc acc ((x :: r).drop i)) (x :: r).length ?_ ?_
            · refine ⟨0, 0, Nat.zero_le _, rfl, rfl, rfl, ?_, ?_, rfl, rfl, by simp, rfl⟩
              · simp (maxSteps := 2000000) -dsimp (disch := omega) only [↓xpre0, xpost0, xpost1, xpost2, xpost3, facts0, facts1, calls0, St.wf.none hw, Nat.add_assoc, ↓reduceIte, Nat.reduceEqDiff, Nat.reduceMul, Nat.reduceAdd, Nat.reduceSub, Nat.reduceLeDiff, Nat.reduceLT, Int.reduceBEq, Int.reduceBNe, Int.reduceEq, Int.reduceNe, Int.reduceLT, Int.reduceLE, Int.reduceToNat, Int.reduceAdd, Int.reduceSub, Int.reduceMul, Int.cast_ofNat_Int]
                try (simp [hq45])
              · simp (maxSteps := 2000000) -dsimp (disch := omega) only [↓xpre0, xpost0, xpost1, xpost2, xpost3, facts0, facts1, calls0, St.wf.none hw, Nat.add_assoc, ↓reduceIte, Nat.reduceEqDiff, Nat.reduceMul, Nat.reduceAdd, Nat.reduceSub, Nat.reduceLeDiff, Nat.reduceLT, Int.reduceBEq, Int.reduceBNe, Int.reduceEq, Int.reduceNe, Int.reduceLT, Int.reduceLE, Int.reduceToNat, Int.reduceAdd, Int.reduceSub, Int.reduceMul, Int.cast_ofNat_Int]
            · have hd19 : (x :: r).length ≤ 19 := by simp; omega
              have g1 : (x :: r) ≠ [] := by simp
              generalize (x :: r) = d at *
              rintro m fr t ht ⟨i, acc, hi, rfl, rfl, hds, h4, h5, h6, h7, hacc, hdec⟩
              have hpow : 10 ^ i ≤ 10 ^ 19 := Nat.pow_le_pow_right (by omega) (by omega)
              have hp19 : (10 : Nat) ^ 19 = 10000000000000000000 := by decide
              by_cases hlt : i < d.length
              · have hpow : 10 ^ i ≤ 10 ^ 18 := Nat.pow_le_pow_right (by omega) (by omega)
                have hp18 : (10 : Nat) ^ 18 = 1000000000000000000 := by decide
                have hlt' : (i : Int) < (d.length : Int) := by omega
                have hwr : IntKind.i64.wrap ((i : Int) + 1) = ((i + 1 : Nat) : Int) := by rw [wrap_i64 (by omega) (by omega)]; omega
                have hgi : d.toArray.getD i 0 = d[i] := by simp [hlt]
                rw [List.drop_eq_getElem_cons hlt, decAcc] at hdec
                generalize d[i] = y at hgi hdec
                have hy := y.toNat_lt
                by_cases hdg : 48 ≤ y.toNat ∧ y.toNat ≤ 57
                · rw [if_pos hdg] at hdec
                  have y1 : ¬ ((y.toNat : Int) < 48) := by omega
                  have y2 : ¬ ((y.toNat : Int) > 57) := by omega
                  have w0 : IntKind.u64.wrap (10 * (acc : Int)) = ((10 * acc : Nat) : Int) := by rw [wrap_u64 (by omega) (by omega)]; omega
                  have w1 : IntKind.u8.wrap ((y.toNat : Int) - 48) = ((y.toNat - 48 : Nat) : Int) := by rw [wrap_u8 (by omega) (by omega)]; omega
                  have w2 : IntKind.u64.wrap ((y.toNat - 48 : Nat) : Int) = ((y.toNat - 48 : Nat) : Int) := wrap_u64 (by omega) (by omega)
                  have w3 : IntKind.u64.wrap (((10 * acc : Nat) : Int) + ((y.toNat - 48 : Nat) : Int)) = ((10 * acc + (y.toNat - 48) : Nat) : Int) := by rw [wrap_u64 (by omega) (by omega)]; omega
                  simp (maxSteps := 2000000) -dsimp (disch := omega) only [h4, h5, h6, h7, hds, hlt', hwr, hgi, y1, y2, decide_true, decide_false, Int.toNat_natCast, w0, w1, w2, w3, ↓Tryz.ntmps41, ↓res41, ↓xpre0, xpost0, xpost1, xpost2, xpost3, facts0, facts1, calls0, St.wf.none hw, Nat.add_assoc, ↓reduceIte, Nat.reduceEqDiff, Nat.reduceMul, Nat.reduceAdd, Nat.reduceSub, Nat.reduceLeDiff, Nat.reduceLT, Int.reduceBEq, Int.reduceBNe, Int.reduceEq, Int.reduceNe, Int.reduceLT, Int.reduceLE, Int.reduceToNat, Int.reduceAdd, Int.reduceSub, Int.reduceMul, Int.cast_ofNat_Int]
                  refine ⟨by omega, fun _ => ⟨by omega, fun _ => ⟨by omega, fun _ => ⟨d.length - (i + 1), by omega, i + 1, _, by omega, rfl, rfl, rfl, ?_, hdec⟩⟩⟩⟩
                  rw [Nat.pow_succ]; omega
                · rw [if_neg hdg] at hdec
                  have hno : numM true (45 :: d) d = none := by unfold numM; split; rfl; rw [hdec]; rfl
                  rw [← hnr] at hno
                  by_cases y1 : (y.toNat : Int) < 48
                  · simp (maxSteps := 2000000) -dsimp (disch := omega) only [h4, h5, h6, h7, hds, hlt', hgi, y1, decide_true, decide_false, Int.toNat_natCast, ↓Tryz.ntmps41, ↓res41, ↓xpre0, xpost0, xpost1, xpost2, xpost3, facts0, facts1, calls0, St.wf.none hw, Nat.add_assoc, ↓reduceIte, Nat.reduceEqDiff, Nat.reduceMul, Nat.reduceAdd, Nat.reduceSub, Nat.reduceLeDiff, Nat.reduceLT, Int.reduceBEq, Int.reduceBNe, Int.reduceEq, Int.reduceNe, Int.reduceLT, Int.reduceLE, Int.reduceToNat, Int.reduceAdd, Int.reduceSub, Int.reduceMul, Int.cast_ofNat_Int]
                    exact ⟨by omega, fun _ => no hw (Ext.refl _) hno⟩
                  · have y2 : (y.toNat : Int) > 57 := by omega
                    simp (maxSteps := 2000000) -dsimp (disch := omega) only [h4, h5, h6, h7, hds, hlt', hgi, y1, y2, decide_true, decide_false, Int.toNat_natCast, ↓Tryz.ntmps41, ↓res41, ↓xpre0, xpost0, xpost1, xpost2, xpost3, facts0, facts1, calls0, St.wf.none hw, Nat.add_assoc, ↓reduceIte, Nat.reduceEqDiff, Nat.reduceMul, Nat.reduceAdd, Nat.reduceSub, Nat.reduceLeDiff, Nat.reduceLT, Int.reduceBEq, Int.reduceBNe, Int.reduceEq, Int.reduceNe, Int.reduceLT, Int.reduceLE, Int.reduceToNat, Int.reduceAdd, Int.reduceSub, Int.reduceMul, Int.cast_ofNat_Int]
                    exact ⟨by omega, fun _ => ⟨by omega, fun _ => no hw (Ext.refl _) hno⟩⟩
              · have hil : i = d.length := by omega
                subst hil
                rw [List.drop_length, decAcc] at hdec
                have hnm := numM_of (neg := true) (l := 45 :: d) g1 hd19 g3 hdec
                rw [← hnr] at hnm
                simp (maxSteps := 2000000) -dsimp (disch := omega) only [h4, h5, h6, h7, hds, Int.lt_irrefl, decide_false, ↓Tryz.ntmps41, ↓res41, ↓xpre0, xpost0, xpost1, xpost2, xpost3, facts0, facts1, calls0, St.wf.none hw, Nat.add_assoc, ↓reduceIte, Nat.reduceEqDiff, Nat.reduceMul, Nat.reduceAdd, Nat.reduceSub, Nat.reduceLeDiff, Nat.reduceLT, Int.reduceBEq, Int.reduceBNe, Int.reduceEq, Int.reduceNe, Int.reduceLT, Int.reduceLE, Int.reduceToNat, Int.reduceAdd, Int.reduceSub, Int.reduceMul, Int.cast_ofNat_Int]
                rw [if_pos rfl] at hnm
                have wi : ∀ n : Int, i64ok (IntKind.i64.wrap n) := fun n => by unfold i64ok; simp [IntKind.wrap, IntKind.bits, IntKind.signed, Int.bmod_def]; omega
                refine ⟨fun e => ?_, fun e => ?_⟩
                · have w9 : IntKind.i64.wrap (IntKind.u64.wrap (0 - (acc : Int))) = -(acc : Int) := by simp [IntKind.wrap, IntKind.bits, IntKind.signed, Int.bmod_def]; omega
                  rw [if_pos (by omega)] at hnm
                  refine fin hw (Ext.refl _) (wi _) true (by rw [hnm]; rfl) (fun v hv => ?_)
                  rw [hnm] at hv; cases hv; exact w9
                · rw [if_neg (by omega)] at hnm
                  exact fin hw (Ext.refl _) (wi _) false (by rw [hnm]; rfl) (fun v hv => by rw [hnm] at hv; cases hv)
    · have hnr : numR (q :: r) = numM false (q :: r) (q :: r) := by unfold numR; rw [if_neg (by simpa using hq)]
      have hq45 : ¬ ((q.toNat : Int) = 45) := by
        intro e
        have : q.toNat = (45 : UInt8).toNat := by have : (45 : UInt8).toNat = 45 := rfl; omega
        exact hq (UInt8.toNat_inj.1 this)
      have h00 : True := trivial
      have hg : (q :: r).toArray.getD 0 0 = q := rfl
      have h01 : True := trivial
      have hne : ¬ (q :: r = ([] : Bs)) := by simp
      by_cases h19 : 19 < (r.length + 1)
      · have h19' : ((r.length + 1 : Nat) : Int) > 19 := by omega
        have hno : numR (q :: r) = none := by rw [hnr]; unfold numM; rw [if_pos (.inr (.inl (by simpa using h19)))]
        refine call_of (.base Tryz.prog B) (fun _ => none) mixed Tryz.func41 rfl (by simp [Tryz.ntmps41]) (by kernel_rfl) fun hw => ?_
        simp (maxSteps := 2000000) -dsimp (disch := omega) only [hinj, hg, hq45, h0p, h0q, h1p, decide_true, decide_false, eq_self_iff_true, hne, Int.toNat_natCast, h19', ↓Tryz.ntmps41, ↓res41, ↓xpre0, xpost0, xpost1, xpost2, xpost3, facts0, facts1, calls0, St.wf.none hw, Nat.add_assoc, ↓reduceIte, Nat.reduceEqDiff, Nat.reduceMul, Nat.reduceAdd, Nat.reduceSub, Nat.reduceLeDiff, Nat.reduceLT, Int.reduceBEq, Int.reduceBNe, Int.reduceEq, Int.reduceNe, Int.reduceLT, Int.reduceLE, Int.reduceToNat, Int.reduceAdd, Int.reduceSub, Int.reduceMul, Int.cast_ofNat_Int]
        refine no hw ?_ hno
        (repeat (first | with_reducible exact Ext.refl _ | with_reducible assumption | refine Ext.lay ?_ _ _ _ (by omega) (by first | omega | (simp only [lay_n, upd_n, more_n, froz_n]; omega)) | refine Ext.upd ?_ _ _ (by omega) | refine Ext.more ?_ _ (by first | omega | (simp only [lay_n, upd_n, more_n, froz_n]; omega)) | refine Ext.frz ?_ hw _ _ _ (by omega) (by first | omega | (simp only [lay_n, upd_n, more_n, froz_n]; omega))))
      · have h19' : ¬ (((r.length + 1 : Nat) : Int) > 19) := by omega
        by_cases h48 : q = 48 ∧ r ≠ []
        · obtain ⟨rfl, hr⟩ := h48
          have e48 : ((48 : UInt8).toNat : Int) = 48 := rfl
          have hnz : ¬ ((48 : UInt8) :: r = [48]) := by simpa using hr
          have hno : numR (48 :: r) = none := by rw [hnr]; unfold numM; rw [if_pos (.inr (.inr ⟨rfl, hnz⟩))]
          refine call_of (.base Tryz.prog B) (fun _ => none) mixed Tryz.func41 rfl (by simp [Tryz.ntmps41]) (by kernel_rfl) fun hw => ?_
          simp (maxSteps := 2000000) -dsimp (disch := omega) only [hinj, hg, hq45, h0p, h0q, h1p, decide_true, decide_false, eq_self_iff_true, hne, Int.toNat_natCast, h19', e48, hnz, ↓Tryz.ntmps41, ↓res41, ↓xpre0, xpost0, xpost1, xpost2, xpost3, facts0, facts1, calls0, St.wf.none hw, Nat.add_assoc, ↓reduceIte, Nat.reduceEqDiff, Nat.reduceMul, Nat.reduceAdd, Nat.reduceSub, Nat.reduceLeDiff, Nat.reduceLT, Int.reduceBEq, Int.reduceBNe, Int.reduceEq, Int.reduceNe, Int.reduceLT, Int.reduceLE, Int.reduceToNat, Int.reduceAdd, Int.reduceSub, Int.reduceMul, Int.cast_ofNat_Int]
          refine no hw ?_ hno
          (repeat (first | with_reducible exact Ext.refl _ | with_reducible assumption | refine Ext.lay ?_ _ _ _ (by omega) (by first | omega | (simp only [lay_n, upd_n, more_n, froz_n]; omega)) | refine Ext.upd ?_ _ _ (by omega) | refine Ext.more ?_ _ (by first | omega | (simp only [lay_n, upd_n, more_n, froz_n]; omega)) | refine Ext.frz ?_ hw _ _ _ (by omega) (by first | omega | (simp only [lay_n, upd_n, more_n, froz_n]; omega))))
        · have g3 : (q :: r).head? = some 48 → (q :: r : Bs) = [48] := by
            intro e
            have e : q = 48 := by simpa using e
            subst e
            by_cases hr : r = []
            · rw [hr]
            · exact absurd ⟨rfl, hr⟩ h48
          have hcut : ((q.toNat : Int) = 48 → (q :: r : Bs) = [48]) := by
            intro e
            refine g3 ?_
            have : q.toNat = (48 : UInt8).toNat := by have : (48 : UInt8).toNat = 48 := rfl; omega
            rw [UInt8.toNat_inj.1 this]; rfl
          suffices hgo : ∀ e1 e2 : Bool, decide ((q.toNat : Int) = 48) = e1 → decide ((q :: r : Bs) = [48]) = e2 → (e1 = true → e2 = true) → CallOK Tryz.prog B 41 #[str (q :: r)] s R from hgo _ _ rfl rfl (by simpa using hcut)
          intro e1 e2 he1 he2 h12
          refine call_of (.base Tryz.prog B) (fun _ => none) mixed Tryz.func41 rfl (by simp [Tryz.ntmps41]) (by kernel_rfl) fun hw => ?_
          cases e1
          · have e48 : ¬ ((q.toNat : Int) = 48) := by simpa using he1
            simp (maxSteps := 2000000) -dsimp (disch := omega) only [hinj, hg, hq45, h0p, h0q, h1p, decide_true, decide_false, eq_self_iff_true, hne, Int.toNat_natCast, h19', e48, ↓Tryz.ntmps41, ↓res41, ↓xpre0, xpost0, xpost1, xpost2, xpost3, facts0, facts1, calls0, St.wf.none hw, Nat.add_assoc, ↓reduceIte, Nat.reduceEqDiff, Nat.reduceMul, Nat.reduceAdd, Nat.reduceSub, Nat.reduceLeDiff, Nat.reduceLT, Int.reduceBEq, Int.reduceBNe, Int.reduceEq, Int.reduceNe, Int.reduceLT, Int.reduceLE, Int.reduceToNat, Int.reduceAdd, Int.reduceSub, Int.reduceMul, Int.cast_ofNat_Int]
            refine loop_wf (pl := fun _ => none) mixed (by kernel_rfl) (fun m fr t => ∃ i acc, i ≤ (q :: r).length ∧ m = (q :: r).length - i ∧ t = s ∧ fr.ds = [] ∧ fr.ρ 4 = .bool false ∧ fr.ρ 5 = str (q :: r) ∧ fr.ρ 6 = .int .u64 (acc : Nat) ∧ fr.ρ 7 = .int .i64 (i : Nat) ∧ acc < 10 ^ i ∧ decAcc 0 (q :: r) = decAcc acc ((q :: r).drop i)) (q :: r).length ?_ ?_
            · refine ⟨0, 0, Nat.zero_le _, rfl, rfl, rfl, ?_, ?_, rfl, rfl, by simp, rfl⟩
              · simp (maxSteps := 2000000) -dsimp (disch := omega) only [↓xpre0, xpost0, xpost1, xpost2, xpost3, facts0, facts1, calls0, St.wf.none hw, Nat.add_assoc, ↓reduceIte, Nat.reduceEqDiff, Nat.reduceMul, Nat.reduceAdd, Nat.reduceSub, Nat.reduceLeDiff, Nat.reduceLT, Int.reduceBEq, Int.reduceBNe, Int.reduceEq, Int.reduceNe, Int.reduceLT, Int.reduceLE, Int.reduceToNat, Int.reduceAdd, Int.reduceSub, Int.reduceMul, Int.cast_ofNat_Int]
                try (simp [hq45])
              · simp (maxSteps := 2000000) -dsimp (disch := omega) only [↓xpre0, xpost0, xpost1, xpost2, xpost3, facts0, facts1, calls0, St.wf.none hw, Nat.add_assoc, ↓reduceIte, Nat.reduceEqDiff, Nat.reduceMul, Nat.reduceAdd, Nat.reduceSub, Nat.reduceLeDiff, Nat.reduceLT, Int.reduceBEq, Int.reduceBNe, Int.reduceEq, Int.reduceNe, Int.reduceLT, Int.reduceLE, Int.reduceToNat, Int.reduceAdd, Int.reduceSub, Int.reduceMul, Int.cast_ofNat_Int]
            · have hd19 : (q :: r).length ≤ 19 := by simp; omega
              have g1 : (q :: r) ≠ [] := by simp
              generalize (q :: r) = d at *
              rintro m fr t ht ⟨i, acc, hi, rfl, rfl, hds, h4, h5, h6, h7, hacc, hdec⟩
              have hpow : 10 ^ i ≤ 10 ^ 19 := Nat.pow_le_pow_right (by omega) (by omega)
              have hp19 : (10 : Nat) ^ 19 = 10000000000000000000 := by decide
              by_cases hlt : i < d.length
              · have hpow : 10 ^ i ≤ 10 ^ 18 := Nat.pow_le_pow_right (by omega) (by omega)
                have hp18 : (10 : Nat) ^ 18 = 1000000000000000000 := by decide
                have hlt' : (i : Int) < (d.length : Int) := by omega
                have hwr : IntKind.i64.wrap ((i : Int) + 1) = ((i + 1 : Nat) : Int) := by rw [wrap_i64 (by omega) (by omega)]; omega
                have hgi : d.toArray.getD i 0 = d[i] := by simp [hlt]
                rw [List.drop_eq_getElem_cons hlt, decAcc] at hdec
                generalize d[i] = y at hgi hdec
                have hy := y.toNat_lt
                by_cases hdg : 48 ≤ y.toNat ∧ y.toNat ≤ 57
                · rw [if_pos hdg] at hdec
                  have y1 : ¬ ((y.toNat : Int) < 48) := by omega
                  have y2 : ¬ ((y.toNat : Int) > 57) := by omega
                  have w0 : IntKind.u64.wrap (10 * (acc : Int)) = ((10 * acc : Nat) : Int) := by rw [wrap_u64 (by omega) (by omega)]; omega
                  have w1 : IntKind.u8.wrap ((y.toNat : Int) - 48) = ((y.toNat - 48 : Nat) : Int) := by rw [wrap_u8 (by omega) (by omega)]; omega
                  have w2 : IntKind.u64.wrap ((y.toNat - 48 : Nat) : Int) = ((y.toNat - 48 : Nat) : Int) := wrap_u64 (by omega) (by omega)
                  have w3 : IntKind.u64.wrap (((10 * acc : Nat) : Int) + ((y.toNat - 48 : Nat) : Int)) = ((10 * acc + (y.toNat - 48) : Nat) : Int) := by rw [wrap_u64 (by omega) (by omega)]; omega
                  simp (maxSteps := 2000000) -dsimp (disch := omega) only [h4, h5, h6, h7, hds, hlt', hwr, hgi, y1, y2, decide_true, decide_false, Int.toNat_natCast, w0, w1, w2, w3, ↓Tryz.ntmps41, ↓res41, ↓xpre0, xpost0, xpost1, xpost2, xpost3, facts0, facts1, calls0, St.wf.none hw, Nat.add_assoc, ↓reduceIte, Nat.reduceEqDiff, Nat.reduceMul, Nat.reduceAdd, Nat.reduceSub, Nat.reduceLeDiff, Nat.reduceLT, Int.reduceBEq, Int.reduceBNe, Int.reduceEq, Int.reduceNe, Int.reduceLT, Int.reduceLE, Int.reduceToNat, Int.reduceAdd, Int.reduceSub, Int.reduceMul, Int.cast_ofNat_Int]
                  refine ⟨by omega, fun _ => ⟨by omega, fun _ => ⟨by omega, fun _ => ⟨d.length - (i + 1), by omega, i + 1, _, by omega, rfl, rfl, rfl, ?_, hdec⟩⟩⟩⟩
                  rw [Nat.pow_succ]; omega
                · rw [if_neg hdg] at hdec
                  have hno : numM false d d = none := by unfold numM; split; rfl; rw [hdec]; rfl
                  rw [← hnr] at hno
                  by_cases y1 : (y.toNat : Int) < 48
                  · simp (maxSteps := 2000000) -dsimp (disch := omega) only [h4, h5, h6, h7, hds, hlt', hgi, y1, decide_true, decide_false, Int.toNat_natCast, ↓Tryz.ntmps41, ↓res41, ↓xpre0, xpost0, xpost1, xpost2, xpost3, facts0, facts1, calls0, St.wf.none hw, Nat.add_assoc, ↓reduceIte, Nat.reduceEqDiff, Nat.reduceMul, Nat.reduceAdd, Nat.reduceSub, Nat.reduceLeDiff, Nat.reduceLT, Int.reduceBEq, Int.reduceBNe, Int.reduceEq, Int.reduceNe, Int.reduceLT, Int.reduceLE, Int.reduceToNat, Int.reduceAdd, Int.reduceSub, Int.reduceMul, Int.cast_ofNat_Int]
                    exact ⟨by omega, fun _ => no hw (Ext.refl _) hno⟩
                  · have y2 : (y.toNat : Int) > 57 := by omega
                    simp (maxSteps := 2000000) -dsimp (disch := omega) only [h4, h5, h6, h7, hds, hlt', hgi, y1, y2, decide_true, decide_false, Int.toNat_natCast, ↓Tryz.ntmps41, ↓res41, ↓xpre0, xpost0, xpost1, xpost2, xpost3, facts0, facts1, calls0, St.wf.none hw, Nat.add_assoc, ↓reduceIte, Nat.reduceEqDiff, Nat.reduceMul, Nat.reduceAdd, Nat.reduceSub, Nat.reduceLeDiff, Nat.reduceLT, Int.reduceBEq, Int.reduceBNe, Int.reduceEq, Int.reduceNe, Int.reduceLT, Int.reduceLE, Int.reduceToNat, Int.reduceAdd, Int.reduceSub, Int.reduceMul, Int.cast_ofNat_Int]
                    exact ⟨by omega, fun _ => ⟨by omega, fun _ => no hw (Ext.refl _) hno⟩⟩
              · have hil : i = d.length := by omega
                subst hil
                rw [List.drop_length, decAcc] at hdec
                have hnm := numM_of (neg := false) (l := d) g1 hd19 g3 hdec
                rw [← hnr] at hnm
                simp (maxSteps := 2000000) -dsimp (disch := omega) only [h4, h5, h6, h7, hds, Int.lt_irrefl, decide_false, ↓Tryz.ntmps41, ↓res41, ↓xpre0, xpost0, xpost1, xpost2, xpost3, facts0, facts1, calls0, St.wf.none hw, Nat.add_assoc, ↓reduceIte, Nat.reduceEqDiff, Nat.reduceMul, Nat.reduceAdd, Nat.reduceSub, Nat.reduceLeDiff, Nat.reduceLT, Int.reduceBEq, Int.reduceBNe, Int.reduceEq, Int.reduceNe, Int.reduceLT, Int.reduceLE, Int.reduceToNat, Int.reduceAdd, Int.reduceSub, Int.reduceMul, Int.cast_ofNat_Int]
                rw [if_neg (by simp)] at hnm
                have wi : ∀ n : Int, i64ok (IntKind.i64.wrap n) := fun n => by unfold i64ok; simp [IntKind.wrap, IntKind.bits, IntKind.signed, Int.bmod_def]; omega
                by_cases e : acc ≤ 9223372036854775807
                · rw [if_pos e] at hnm
                  have e' : (acc : Int) ≤ 9223372036854775807 := by omega
                  have hd : decide ((acc : Int) ≤ 9223372036854775807) = true := decide_eq_true e'
                  rw [hd]
                  refine fin hw (Ext.refl _) (wi _) true (by rw [hnm]; rfl) (fun v hv => ?_)
                  rw [hnm] at hv; cases hv; exact wrap_i64 (by omega) e'
                · rw [if_neg e] at hnm
                  have e' : ¬ ((acc : Int) ≤ 9223372036854775807) := by omega
                  have hd : decide ((acc : Int) ≤ 9223372036854775807) = false := decide_eq_false e'
                  rw [hd]
                  exact fin hw (Ext.refl _) (wi _) false (by rw [hnm]; rfl) (fun v hv => by rw [hnm] at hv; cases hv)
          · have e48 : (q.toNat : Int) = 48 := by simpa using he1
            have e49 : (q :: r : Bs) = [48] := hcut e48
            simp only [List.cons.injEq] at e49
            obtain ⟨rfl, rfl⟩ := e49
            have e50 : ((48 : UInt8).toNat : Int) = 48 := rfl
            have hg : ([48] : Bs).toArray.getD 0 0 = 48 := rfl
            have e51 : ¬ ((48 : Int) = 45) := by omega
            have e52 : ¬ ([48] = ([] : Bs)) := by simp
            simp (maxSteps := 2000000) -dsimp (disch := omega) only [hinj, hg, e50, e51, e52, decide_true, decide_false, eq_self_iff_true, Int.toNat_natCast, ↓Tryz.ntmps41, ↓res41, ↓xpre0, xpost0, xpost1, xpost2, xpost3, facts0, facts1, calls0, St.wf.none hw, Nat.add_assoc, ↓reduceIte, Nat.reduceEqDiff, Nat.reduceMul, Nat.reduceAdd, Nat.reduceSub, Nat.reduceLeDiff, Nat.reduceLT, Int.reduceBEq, Int.reduceBNe, Int.reduceEq, Int.reduceNe, Int.reduceLT, Int.reduceLE, Int.reduceToNat, Int.reduceAdd, Int.reduceSub, Int.reduceMul, Int.cast_ofNat_Int]
            refine loop_wf (pl := fun _ => none) mixed (by kernel_rfl) (fun m fr t => ∃ i acc, i ≤ ([48] : Bs).length ∧ m = ([48] : Bs).length - i ∧ t = s ∧ fr.ds = [] ∧ fr.ρ 4 = .bool false ∧ fr.ρ 5 = str ([48] : Bs) ∧ fr.ρ 6 = .int .u64 (acc : Nat) ∧ fr.ρ 7 = .int .i64 (i : Nat) ∧ acc < 10 ^ i ∧ decAcc 0 ([48] : Bs) = decAcc acc (([48] : Bs).drop i)) ([48] : Bs).length ?_ ?_
            · refine ⟨0, 0, Nat.zero_le _, rfl, rfl, rfl, ?_, ?_, rfl, rfl, by simp, rfl⟩
              · simp (maxSteps := 2000000) -dsimp (disch := omega) only [↓xpre0, xpost0, xpost1, xpost2, xpost3, facts0, facts1, calls0, St.wf.none hw, Nat.add_assoc, ↓reduceIte, Nat.reduceEqDiff, Nat.reduceMul, Nat.reduceAdd, Nat.reduceSub, Nat.reduceLeDiff, Nat.reduceLT, Int.reduceBEq, Int.reduceBNe, Int.reduceEq, Int.reduceNe, Int.reduceLT, Int.reduceLE, Int.reduceToNat, Int.reduceAdd, Int.reduceSub, Int.reduceMul, Int.cast_ofNat_Int]
                try (simp [e50])
              · simp (maxSteps := 2000000) -dsimp (disch := omega) only [↓xpre0, xpost0, xpost1, xpost2, xpost3, facts0, facts1, calls0, St.wf.none hw, Nat.add_assoc, ↓reduceIte, Nat.reduceEqDiff, Nat.reduceMul, Nat.reduceAdd, Nat.reduceSub, Nat.reduceLeDiff, Nat.reduceLT, Int.reduceBEq, Int.reduceBNe, Int.reduceEq, Int.reduceNe, Int.reduceLT, Int.reduceLE, Int.reduceToNat, Int.reduceAdd, Int.reduceSub, Int.reduceMul, Int.cast_ofNat_Int]
            · have hd19 : ([48] : Bs).length ≤ 19 := by simp
              have g1 : ([48] : Bs) ≠ [] := by simp
              generalize hd48 : ([48] : Bs) = d at *
              rintro m fr t ht ⟨i, acc, hi, rfl, rfl, hds, h4, h5, h6, h7, hacc, hdec⟩
              have hpow : 10 ^ i ≤ 10 ^ 19 := Nat.pow_le_pow_right (by omega) (by omega)
              have hp19 : (10 : Nat) ^ 19 = 10000000000000000000 := by decide
              by_cases hlt : i < d.length
              · have hpow : 10 ^ i ≤ 10 ^ 18 := Nat.pow_le_pow_right (by omega) (by omega)
                have hp18 : (10 : Nat) ^ 18 = 1000000000000000000 := by decide
                have hlt' : (i : Int) < (d.length : Int) := by omega
                have hwr : IntKind.i64.wrap ((i : Int) + 1) = ((i + 1 : Nat) : Int) := by rw [wrap_i64 (by omega) (by omega)]; omega
                have hgi : d.toArray.getD i 0 = d[i] := by simp [hlt]
                rw [List.drop_eq_getElem_cons hlt, decAcc] at hdec
                generalize d[i] = y at hgi hdec
                have hy := y.toNat_lt
                by_cases hdg : 48 ≤ y.toNat ∧ y.toNat ≤ 57
                · rw [if_pos hdg] at hdec
                  have y1 : ¬ ((y.toNat : Int) < 48) := by omega
                  have y2 : ¬ ((y.toNat : Int) > 57) := by omega
                  have w0 : IntKind.u64.wrap (10 * (acc : Int)) = ((10 * acc : Nat) : Int) := by rw [wrap_u64 (by omega) (by omega)]; omega
                  have w1 : IntKind.u8.wrap ((y.toNat : Int) - 48) = ((y.toNat - 48 : Nat) : Int) := by rw [wrap_u8 (by omega) (by omega)]; omega
                  have w2 : IntKind.u64.wrap ((y.toNat - 48 : Nat) : Int) = ((y.toNat - 48 : Nat) : Int) := wrap_u64 (by omega) (by omega)
                  have w3 : IntKind.u64.wrap (((10 * acc : Nat) : Int) + ((y.toNat - 48 : Nat) : Int)) = ((10 * acc + (y.toNat - 48) : Nat) : Int) := by rw [wrap_u64 (by omega) (by omega)]; omega
                  simp (maxSteps := 2000000) -dsimp (disch := omega) only [h4, h5, h6, h7, hds, hlt', hwr, hgi, y1, y2, decide_true, decide_false, Int.toNat_natCast, w0, w1, w2, w3, ↓Tryz.ntmps41, ↓res41, ↓xpre0, xpost0, xpost1, xpost2, xpost3, facts0, facts1, calls0, St.wf.none hw, Nat.add_assoc, ↓reduceIte, Nat.reduceEqDiff, Nat.reduceMul, Nat.reduceAdd, Nat.reduceSub, Nat.reduceLeDiff, Nat.reduceLT, Int.reduceBEq, Int.reduceBNe, Int.reduceEq, Int.reduceNe, Int.reduceLT, Int.reduceLE, Int.reduceToNat, Int.reduceAdd, Int.reduceSub, Int.reduceMul, Int.cast_ofNat_Int]
                  refine ⟨by omega, fun _ => ⟨by omega, fun _ => ⟨by omega, fun _ => ⟨d.length - (i + 1), by omega, i + 1, _, by omega, rfl, rfl, rfl, ?_, hdec⟩⟩⟩⟩
                  rw [Nat.pow_succ]; omega
                · rw [if_neg hdg] at hdec
                  have hno : numM false d d = none := by unfold numM; split; rfl; rw [hdec]; rfl
                  rw [← hnr] at hno
                  by_cases y1 : (y.toNat : Int) < 48
                  · simp (maxSteps := 2000000) -dsimp (disch := omega) only [h4, h5, h6, h7, hds, hlt', hgi, y1, decide_true, decide_false, Int.toNat_natCast, ↓Tryz.ntmps41, ↓res41, ↓xpre0, xpost0, xpost1, xpost2, xpost3, facts0, facts1, calls0, St.wf.none hw, Nat.add_assoc, ↓reduceIte, Nat.reduceEqDiff, Nat.reduceMul, Nat.reduceAdd, Nat.reduceSub, Nat.reduceLeDiff, Nat.reduceLT, Int.reduceBEq, Int.reduceBNe, Int.reduceEq, Int.reduceNe, Int.reduceLT, Int.reduceLE, Int.reduceToNat, Int.reduceAdd, Int.reduceSub, Int.reduceMul, Int.cast_ofNat_Int]
                    exact ⟨by omega, fun _ => no hw (Ext.refl _) hno⟩
                  · have y2 : (y.toNat : Int) > 57 := by omega
                    simp (maxSteps := 2000000) -dsimp (disch := omega) only [h4, h5, h6, h7, hds, hlt', hgi, y1, y2, decide_true, decide_false, Int.toNat_natCast, ↓Tryz.ntmps41, ↓res41, ↓xpre0, xpost0, xpost1, xpost2, xpost3, facts0, facts1, calls0, St.wf.none hw, Nat.add_assoc, ↓reduceIte, Nat.reduceEqDiff, Nat.reduceMul, Nat.reduceAdd, Nat.reduceSub, Nat.reduceLeDiff, Nat.reduceLT, Int.reduceBEq, Int.reduceBNe, Int.reduceEq, Int.reduceNe, Int.reduceLT, Int.reduceLE, Int.reduceToNat, Int.reduceAdd, Int.reduceSub, Int.reduceMul, Int.cast_ofNat_Int]
                    exact ⟨by omega, fun _ => ⟨by omega, fun _ => no hw (Ext.refl _) hno⟩⟩
              · have hil : i = d.length := by omega
                subst hil
                rw [List.drop_length, decAcc] at hdec
                have hnm := numM_of (neg := false) (l := d) g1 hd19 (fun _ => hd48.symm) hdec
                rw [← hnr] at hnm
                simp (maxSteps := 2000000) -dsimp (disch := omega) only [h4, h5, h6, h7, hds, Int.lt_irrefl, decide_false, ↓Tryz.ntmps41, ↓res41, ↓xpre0, xpost0, xpost1, xpost2, xpost3, facts0, facts1, calls0, St.wf.none hw, Nat.add_assoc, ↓reduceIte, Nat.reduceEqDiff, Nat.reduceMul, Nat.reduceAdd, Nat.reduceSub, Nat.reduceLeDiff, Nat.reduceLT, Int.reduceBEq, Int.reduceBNe, Int.reduceEq, Int.reduceNe, Int.reduceLT, Int.reduceLE, Int.reduceToNat, Int.reduceAdd, Int.reduceSub, Int.reduceMul, Int.cast_ofNat_Int]
                rw [if_neg (by simp)] at hnm
                have wi : ∀ n : Int, i64ok (IntKind.i64.wrap n) := fun n => by unfold i64ok; simp [IntKind.wrap, IntKind.bits, IntKind.signed, Int.bmod_def]; omega
                by_cases e : acc ≤ 9223372036854775807
                · rw [if_pos e] at hnm
                  have e' : (acc : Int) ≤ 9223372036854775807 := by omega
                  have hd : decide ((acc : Int) ≤ 9223372036854775807) = true := decide_eq_true e'
                  rw [hd]
                  refine fin hw (Ext.refl _) (wi _) true (by rw [hnm]; rfl) (fun v hv => ?_)
                  rw [hnm] at hv; cases hv; exact wrap_i64 (by omega) e'
                · rw [if_neg e] at hnm
                  have e' : ¬ ((acc : Int) ≤ 9223372036854775807) := by omega
                  have hd : decide ((acc : Int) ≤ 9223372036854775807) = false := decide_eq_false e'
                  rw [hd]
                  exact fin hw (Ext.refl _) (wi _) false (by rw [hnm]; rfl) (fun v hv => by rw [hnm] at hv; cases hv)
end Go.Proofs.TX
