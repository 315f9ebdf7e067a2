/- The document's layer 1: Hex, Read. -/
import Derived.Test.YtfndoonmgilklaaGreatDoorXR2
set_option linter.unusedSimpArgs false
set_option linter.unusedVariables false
set_option maxRecDepth 100000
set_option maxHeartbeats 4000000
namespace Go.Proofs.TX
open Go
theorem hex_extract (k : Nat) (h : k < 16) : (ByteArray.mk #[48, 49, 50, 51, 52, 53, 54, 55, 56, 57, 97, 98, 99, 100, 101, 102]).extract k (k + 1) = ⟨#[hexDigits.getD k 0]⟩ := by
  have : ∀ k : Fin 16, ((ByteArray.mk #[48, 49, 50, 51, 52, 53, 54, 55, 56, 57, 97, 98, 99, 100, 101, 102]).extract k.val (k.val + 1)).data = #[hexDigits.getD k.val 0] := by decide +kernel
  exact ByteArray.ext (this ⟨k, h⟩)
theorem tmod16 (u : Nat) : Int.tmod (u : Int) 16 = ((u % 16 : Nat) : Int) := by rw [Int.tmod_eq_emod_of_nonneg (by omega)]; omega
theorem tdiv16 (u : Nat) : Int.tdiv (u : Int) 16 = ((u / 16 : Nat) : Int) := by rw [Int.tdiv_eq_ediv_of_nonneg (by omega)]; omega
theorem hex36_c' (B : World) (w : Nat) (hw64 : w < 18446744073709551616) (s : St) (R : Value → St → Prop) (h : ∀ n, s.n ≤ n → R (str (hexS w)) (s.more n)) : CallOK Tryz.prog B 36 #[.int .u64 w] s R := by
  refine call_of (.base Tryz.prog B) (fun _ => none) mixed Tryz.func36 rfl (by simp [Tryz.ntmps36]) (by kernel_rfl) fun hw => ?_
  simp (maxSteps := 2000000) -dsimp (disch := omega) only [↓Tryz.ntmps36, ↓res36, ↓xpre0, xpost0, xpost1, xpost2, xpost3, facts0, facts1, calls0, St.wf.none hw, Nat.add_assoc, ↓reduceIte, Nat.reduceEqDiff, Nat.reduceMul, Nat.reduceAdd, Nat.reduceSub, Nat.reduceLeDiff, Nat.reduceLT, Int.reduceBEq, Int.reduceBNe, Int.reduceEq, Int.reduceNe, Int.reduceLT, Int.reduceLE, Int.reduceToNat, Int.reduceAdd, Int.reduceSub, Int.reduceMul, Int.cast_ofNat_Int]
  refine loop_wf (pl := fun _ => none) mixed (by kernel_rfl) (fun m fr t => ∃ i, i ≤ 16 ∧ m = 16 - i ∧ t = s ∧ fr.ds = [] ∧ fr.ρ 0 = .int .u64 ((w / 16 ^ i : Nat) : Int) ∧ fr.ρ 3 = str (hexN i w) ∧ fr.ρ 4 = .int .i64 (i : Nat)) 16 ?_ ?_
  · exact ⟨0, by omega, rfl, rfl, rfl, by simp [Fr.set, initFr], rfl, rfl⟩
  · rintro m fr t ht ⟨i, hi, rfl, rfl, hds, h0, h3, h4⟩
    have hln : (hexN i w).length = i := by simp [hexN]
    by_cases hlt : i < 16
    · have hlt' : (i : Int) < 16 := by omega
      have hwr : IntKind.i64.wrap ((i : Int) + 1) = ((i + 1 : Nat) : Int) := by rw [wrap_i64 (by omega) (by omega)]; omega
      have hle : w / 16 ^ i ≤ w := Nat.div_le_self _ _
      have w1 : IntKind.u64.wrap (((w / 16 ^ i % 16 : Nat) : Int) + 1) = ((w / 16 ^ i % 16 + 1 : Nat) : Int) := by rw [wrap_u64 (by omega) (by omega)]; omega
      have w2 : IntKind.u64.wrap (((w / 16 ^ i / 16 : Nat) : Int)) = ((w / 16 ^ i / 16 : Nat) : Int) := wrap_u64 (Int.natCast_nonneg _) (by have := Nat.div_le_self (w / 16 ^ i) 16; omega)
      have hd := hex_extract (w / 16 ^ i % 16) (by omega)
      have e4 : (ByteArray.mk #[hexDigits.getD (w / 16 ^ i % 16) 0]) ++ (ByteArray.mk (hexN i w).toArray) = ⟨(hexN (i + 1) w).toArray⟩ := by
        rw [hexN_succ]; exact bs_append [_] _
      have e5 : (ByteArray.mk #[hexDigits.getD (w / 16 ^ i % 16) 0]).size = 1 := rfl
      simp (maxSteps := 2000000) -dsimp (disch := omega) only [h0, h3, h4, hds, hlt', hwr, tmod16, tdiv16, w1, w2, Int.toNat_natCast, hd, e4, e5, hln, ↓Tryz.ntmps36, ↓res36, ↓xpre0, xpost0, xpost1, xpost2, xpost3, facts0, facts1, calls0, St.wf.none hw, Nat.add_assoc, ↓reduceIte, Nat.reduceEqDiff, Nat.reduceMul, Nat.reduceAdd, Nat.reduceSub, Nat.reduceLeDiff, Nat.reduceLT, Int.reduceBEq, Int.reduceBNe, Int.reduceEq, Int.reduceNe, Int.reduceLT, Int.reduceLE, Int.reduceToNat, Int.reduceAdd, Int.reduceSub, Int.reduceMul, Int.cast_ofNat_Int]
      refine ⟨by omega, fun _ => ⟨by omega, fun _ => ⟨by omega, fun _ => ⟨16 - (i + 1), by omega, i + 1, by omega, rfl, ?_, rfl, rfl⟩⟩⟩⟩
      rw [Nat.pow_succ, Nat.div_div_eq_div_mul]
    · obtain rfl : i = 16 := by omega
      have hcast : ((16 : Nat) : Int) = 16 := rfl
      rw [hcast] at h4
      simp (maxSteps := 2000000) -dsimp (disch := omega) only [h0, h3, h4, hds, Int.lt_irrefl, decide_false, ↓Tryz.ntmps36, ↓res36, ↓xpre0, xpost0, xpost1, xpost2, xpost3, facts0, facts1, calls0, St.wf.none hw, Nat.add_assoc, ↓reduceIte, Nat.reduceEqDiff, Nat.reduceMul, Nat.reduceAdd, Nat.reduceSub, Nat.reduceLeDiff, Nat.reduceLT, Int.reduceBEq, Int.reduceBNe, Int.reduceEq, Int.reduceNe, Int.reduceLT, Int.reduceLE, Int.reduceToNat, Int.reduceAdd, Int.reduceSub, Int.reduceMul, Int.cast_ofNat_Int]
      exact drop_ext hw (Ext.refl _) h
theorem dIn_eq (c : UInt8) : dIn c 16 = if 48 ≤ c.toNat ∧ c.toNat ≤ 57 then (c.toNat : Int) - 48 else if 97 ≤ c.toNat ∧ c.toNat ≤ 102 then (c.toNat : Int) - 87 else -1 := by
  have : ∀ k : Fin 256, dIn (UInt8.ofNat k.val) 16 = if 48 ≤ k.val ∧ k.val ≤ 57 then (k.val : Int) - 48 else if 97 ≤ k.val ∧ k.val ≤ 102 then (k.val : Int) - 87 else -1 := by decide +kernel
  have h := this ⟨c.toNat, c.toNat_lt⟩
  have e : UInt8.ofNat c.toNat = c := by simp
  simp only [e] at h
  exact h
theorem read42_c (B : World) (l : Bs) (s : St) (R : Value → St → Prop) (h : ∀ n, s.n ≤ n → R (match readW l with | some w => .tuple #[.int .u64 (w : Nat), .int .i64 0] | none => .tuple #[.int .u64 0, .int .i64 4]) (s.more n)) : CallOK Tryz.prog B 42 #[str l] s R := by
  by_cases hl : l.length = 16
  · have hl' : (l.length : Int) = 16 := by omega
    refine call_of (.base Tryz.prog B) (fun _ => none) mixed Tryz.func42 rfl (by simp [Tryz.ntmps42]) (by kernel_rfl) fun hw => ?_
    simp (maxSteps := 2000000) -dsimp (disch := omega) only [hl', ↓Tryz.ntmps42, ↓res42, ↓xpre0, xpost0, xpost1, xpost2, xpost3, facts0, facts1, calls0, St.wf.none hw, Nat.add_assoc, ↓reduceIte, Nat.reduceEqDiff, Nat.reduceMul, Nat.reduceAdd, Nat.reduceSub, Nat.reduceLeDiff, Nat.reduceLT, Int.reduceBEq, Int.reduceBNe, Int.reduceEq, Int.reduceNe, Int.reduceLT, Int.reduceLE, Int.reduceToNat, Int.reduceAdd, Int.reduceSub, Int.reduceMul, Int.cast_ofNat_Int]
    have bad : ∀ {t : St}, Ext s t → readW l = none → Drop R (.tuple #[.int .u64 0, .int .i64 4]) t := by
      intro t he e
      rw [e] at h
      exact drop_ext hw he h
    refine loop_wf (pl := fun _ => none) mixed (by kernel_rfl) (fun m fr t => ∃ i acc, i ≤ 16 ∧ m = 16 - i ∧ t = s ∧ fr.ds = [] ∧ fr.ρ 0 = str l ∧ fr.ρ 4 = .int .u64 (acc : Nat) ∧ fr.ρ 5 = .int .i64 (i : Nat) ∧ acc < 16 ^ i ∧ rdW l 0 = rdW (l.drop i) acc) 16 ?_ ?_
    · exact ⟨0, 0, by omega, rfl, rfl, rfl, rfl, rfl, rfl, by simp, rfl⟩
    · rintro m fr t ht ⟨i, acc, hi, rfl, rfl, hds, h0, h4, h5, hacc, hrd⟩
      by_cases hlt : i < 16
      · have hlt' : (i : Int) < 16 := by omega
        have hli : i < l.length := by omega
        have hwr : IntKind.i64.wrap ((i : Int) + 1) = ((i + 1 : Nat) : Int) := by rw [wrap_i64 (by omega) (by omega)]; omega
        have hg : l.toArray.getD i 0 = l[i] := by simp [hli]
        rw [List.drop_eq_getElem_cons hli, rdW] at hrd
        have hb := dIn_eq l[i]
        generalize l[i] = q at hg hrd hb
        have hq := q.toNat_lt
        have hp : 16 ^ i ≤ 16 ^ 15 := Nat.pow_le_pow_right (by omega) (by omega)
        have hp' : (16 : Nat) ^ 15 = 1152921504606846976 := by decide
        have w0 : IntKind.u64.wrap ((acc : Int) * 16) = ((acc * 16 : Nat) : Int) := by rw [wrap_u64 (by omega) (by omega)]; omega
        by_cases hd : 48 ≤ q.toNat ∧ q.toNat ≤ 57
        · rw [if_pos hd] at hb
          have g1 : (q.toNat : Int) ≥ 48 := by omega
          have g2 : (q.toNat : Int) ≤ 57 := by omega
          have w1 : IntKind.u8.wrap ((q.toNat : Int) - 48) = ((q.toNat - 48 : Nat) : Int) := by rw [wrap_u8 (by omega) (by omega)]; omega
          have w2 : IntKind.u64.wrap ((q.toNat - 48 : Nat) : Int) = ((q.toNat - 48 : Nat) : Int) := wrap_u64 (by omega) (by omega)
          have w3 : IntKind.u64.wrap (((acc * 16 : Nat) : Int) + ((q.toNat - 48 : Nat) : Int)) = ((16 * acc + (q.toNat - 48) : Nat) : Int) := by rw [wrap_u64 (by omega) (by omega)]; omega
          simp (maxSteps := 2000000) -dsimp (disch := omega) only [h0, h4, h5, hds, hlt', hwr, Int.toNat_natCast, hg, g1, g2, decide_true, w0, w1, w2, w3, ↓Tryz.ntmps42, ↓res42, ↓xpre0, xpost0, xpost1, xpost2, xpost3, facts0, facts1, calls0, St.wf.none hw, Nat.add_assoc, ↓reduceIte, Nat.reduceEqDiff, Nat.reduceMul, Nat.reduceAdd, Nat.reduceSub, Nat.reduceLeDiff, Nat.reduceLT, Int.reduceBEq, Int.reduceBNe, Int.reduceEq, Int.reduceNe, Int.reduceLT, Int.reduceLE, Int.reduceToNat, Int.reduceAdd, Int.reduceSub, Int.reduceMul, Int.cast_ofNat_Int]
          rw [if_neg (by omega)] at hrd
          have e : (dIn q 16).toNat = q.toNat - 48 := by omega
          rw [e] at hrd
          refine ⟨by omega, fun _ => ⟨16 - (i + 1), by omega, i + 1, _, by omega, rfl, rfl, rfl, ?_, hrd⟩⟩
          rw [Nat.pow_succ]; omega
        · rw [if_neg hd] at hb
          by_cases hd2 : 97 ≤ q.toNat ∧ q.toNat ≤ 102
          · rw [if_pos hd2] at hb
            have g1 : (q.toNat : Int) ≥ 48 := by omega
            have g2 : ¬ ((q.toNat : Int) ≤ 57) := by omega
            have g3 : (q.toNat : Int) ≥ 97 := by omega
            have g4 : (q.toNat : Int) ≤ 102 := by omega
            have w1 : IntKind.u8.wrap ((q.toNat : Int) - 97) = ((q.toNat - 97 : Nat) : Int) := by rw [wrap_u8 (by omega) (by omega)]; omega
            have w2 : IntKind.u64.wrap ((q.toNat - 97 : Nat) : Int) = ((q.toNat - 97 : Nat) : Int) := wrap_u64 (by omega) (by omega)
            have w3 : IntKind.u64.wrap (((acc * 16 : Nat) : Int) + ((q.toNat - 97 : Nat) : Int)) = ((16 * acc + (q.toNat - 97) : Nat) : Int) := by rw [wrap_u64 (by omega) (by omega)]; omega
            have w4 : IntKind.u64.wrap (((16 * acc + (q.toNat - 97) : Nat) : Int) + 10) = ((16 * acc + (q.toNat - 87) : Nat) : Int) := by rw [wrap_u64 (by omega) (by omega)]; omega
            simp (maxSteps := 2000000) -dsimp (disch := omega) only [h0, h4, h5, hds, hlt', hwr, Int.toNat_natCast, hg, g1, g2, g3, g4, decide_true, decide_false, w0, w1, w2, w3, w4, ↓Tryz.ntmps42, ↓res42, ↓xpre0, xpost0, xpost1, xpost2, xpost3, facts0, facts1, calls0, St.wf.none hw, Nat.add_assoc, ↓reduceIte, Nat.reduceEqDiff, Nat.reduceMul, Nat.reduceAdd, Nat.reduceSub, Nat.reduceLeDiff, Nat.reduceLT, Int.reduceBEq, Int.reduceBNe, Int.reduceEq, Int.reduceNe, Int.reduceLT, Int.reduceLE, Int.reduceToNat, Int.reduceAdd, Int.reduceSub, Int.reduceMul, Int.cast_ofNat_Int]
            rw [if_neg (by omega)] at hrd
            have e : (dIn q 16).toNat = q.toNat - 87 := by omega
            rw [e] at hrd
            refine ⟨by omega, fun _ => ⟨16 - (i + 1), by omega, i + 1, _, by omega, rfl, rfl, rfl, ?_, hrd⟩⟩
            rw [Nat.pow_succ]; omega
          · rw [if_neg hd2] at hb
            have hn : readW l = none := by unfold readW; rw [if_pos hl, hrd, if_pos (by omega)]
            by_cases g1 : (q.toNat : Int) ≥ 48
            · have g2 : ¬ ((q.toNat : Int) ≤ 57) := by omega
              by_cases g3 : (q.toNat : Int) ≥ 97
              · have g4 : ¬ ((q.toNat : Int) ≤ 102) := by omega
                simp (maxSteps := 2000000) -dsimp (disch := omega) only [h0, h4, h5, hds, hlt', hwr, Int.toNat_natCast, hg, g1, g2, g3, g4, decide_true, decide_false, ↓Tryz.ntmps42, ↓res42, ↓xpre0, xpost0, xpost1, xpost2, xpost3, facts0, facts1, calls0, St.wf.none hw, Nat.add_assoc, ↓reduceIte, Nat.reduceEqDiff, Nat.reduceMul, Nat.reduceAdd, Nat.reduceSub, Nat.reduceLeDiff, Nat.reduceLT, Int.reduceBEq, Int.reduceBNe, Int.reduceEq, Int.reduceNe, Int.reduceLT, Int.reduceLE, Int.reduceToNat, Int.reduceAdd, Int.reduceSub, Int.reduceMul, Int.cast_ofNat_Int]
                exact ⟨by omega, fun _ => bad (Ext.refl _) hn⟩
              · simp (maxSteps := 2000000) -dsimp (disch := omega) only [h0, h4, h5, hds, hlt', hwr, Int.toNat_natCast, hg, g1, g2, g3, decide_true, decide_false, ↓Tryz.ntmps42, ↓res42, ↓xpre0, xpost0, xpost1, xpost2, xpost3, facts0, facts1, calls0, St.wf.none hw, Nat.add_assoc, ↓reduceIte, Nat.reduceEqDiff, Nat.reduceMul, Nat.reduceAdd, Nat.reduceSub, Nat.reduceLeDiff, Nat.reduceLT, Int.reduceBEq, Int.reduceBNe, Int.reduceEq, Int.reduceNe, Int.reduceLT, Int.reduceLE, Int.reduceToNat, Int.reduceAdd, Int.reduceSub, Int.reduceMul, Int.cast_ofNat_Int]
                exact ⟨by omega, fun _ => bad (Ext.refl _) hn⟩
            · have g3 : ¬ ((q.toNat : Int) ≥ 97) := by omega
              simp (maxSteps := 2000000) -dsimp (disch := omega) only [h0, h4, h5, hds, hlt', hwr, Int.toNat_natCast, hg, g1, g3, decide_true, decide_false, ↓Tryz.ntmps42, ↓res42, ↓xpre0, xpost0, xpost1, xpost2, xpost3, facts0, facts1, calls0, St.wf.none hw, Nat.add_assoc, ↓reduceIte, Nat.reduceEqDiff, Nat.reduceMul, Nat.reduceAdd, Nat.reduceSub, Nat.reduceLeDiff, Nat.reduceLT, Int.reduceBEq, Int.reduceBNe, Int.reduceEq, Int.reduceNe, Int.reduceLT, Int.reduceLE, Int.reduceToNat, Int.reduceAdd, Int.reduceSub, Int.reduceMul, Int.cast_ofNat_Int]
              exact ⟨by omega, fun _ => bad (Ext.refl _) hn⟩
      · obtain rfl : i = 16 := by omega
        have hcast : ((16 : Nat) : Int) = 16 := rfl
        rw [hcast] at h5
        simp (maxSteps := 2000000) -dsimp (disch := omega) only [h0, h4, h5, hds, Int.lt_irrefl, decide_false, ↓Tryz.ntmps42, ↓res42, ↓xpre0, xpost0, xpost1, xpost2, xpost3, facts0, facts1, calls0, St.wf.none hw, Nat.add_assoc, ↓reduceIte, Nat.reduceEqDiff, Nat.reduceMul, Nat.reduceAdd, Nat.reduceSub, Nat.reduceLeDiff, Nat.reduceLT, Int.reduceBEq, Int.reduceBNe, Int.reduceEq, Int.reduceNe, Int.reduceLT, Int.reduceLE, Int.reduceToNat, Int.reduceAdd, Int.reduceSub, Int.reduceMul, Int.cast_ofNat_Int]
        have : readW l = some acc := by
          unfold readW; rw [if_pos hl, hrd, List.drop_of_length_le (by omega)]; rfl
        rw [this] at h
        exact drop_ext hw (Ext.refl t) h
  · have hl' : ¬ ((l.length : Int) = 16) := by omega
    refine call_of (.base Tryz.prog B) (fun _ => none) mixed Tryz.func42 rfl (by simp [Tryz.ntmps42]) (by kernel_rfl) fun hw => ?_
    simp (maxSteps := 2000000) -dsimp (disch := omega) only [hl', ↓Tryz.ntmps42, ↓res42, ↓xpre0, xpost0, xpost1, xpost2, xpost3, facts0, facts1, calls0, St.wf.none hw, Nat.add_assoc, ↓reduceIte, Nat.reduceEqDiff, Nat.reduceMul, Nat.reduceAdd, Nat.reduceSub, Nat.reduceLeDiff, Nat.reduceLT, Int.reduceBEq, Int.reduceBNe, Int.reduceEq, Int.reduceNe, Int.reduceLT, Int.reduceLE, Int.reduceToNat, Int.reduceAdd, Int.reduceSub, Int.reduceMul, Int.cast_ofNat_Int]
    have : readW l = none := by unfold readW; rw [if_neg hl]
    rw [this] at h
    exact drop_ext hw (Ext.refl s) h
end Go.Proofs.TX
