/- The text layer's functions: words in hexadecimal. -/
import Derived.Test.YtfndoonmgilklaaGreatDoorXT4
set_option linter.unusedSimpArgs false
set_option linter.unusedVariables false
set_option maxRecDepth 100000
set_option maxHeartbeats 4000000
namespace Go.Proofs.TX
open Go
def hexDigits : Bs := [48, 49, 50, 51, 52, 53, 54, 55, 56, 57, 97, 98, 99, 100, 101, 102]
/-- 16 digits, the highest first -/
def hexS (w : Nat) : Bs := (List.range 16).map fun i => hexDigits.getD (w / 16 ^ (15 - i) % 16) 0
theorem hexS_length (w : Nat) : (hexS w).length = 16 := by simp [hexS]
theorem hexS_get (w i : Nat) (h : i < 16) : (hexS w)[i]? = some (hexDigits.getD (w / 16 ^ (15 - i) % 16) 0) := by
  simp [hexS, List.getElem?_range h]
theorem nib_shift {i : Nat} (h : i < 16) : IntKind.i64.wrap (4 * IntKind.i64.wrap (15 - (i : Int))) = ((60 - 4 * i : Nat) : Int) := by
  rw [wrap_i64 (n := 15 - (i : Int)) (by omega) (by omega), wrap_i64 (by omega) (by omega)]; omega
theorem nib (w i : Nat) (h : i < 16) : IntKind.u64.wrap ((BitVec.ofInt IntKind.u64.bits ((w : Int).fdiv (2 ^ min (60 - 4 * i) IntKind.u64.bits)) &&& BitVec.ofInt IntKind.u64.bits 15).toNat : Int) = ((w / 16 ^ (15 - i) % 16 : Nat) : Int) := by
  have e1 : min (60 - 4 * i) IntKind.u64.bits = 4 * (15 - i) := by have : IntKind.u64.bits = 64 := rfl; omega
  have e2 : (2 : Int) ^ (4 * (15 - i)) = ((16 ^ (15 - i) : Nat) : Int) := by rw [Int.pow_mul]; simp
  have hb : IntKind.u64.bits = 64 := rfl
  rw [e1, e2, u64_wrap, BitVec.toNat_and, BitVec.toNat_ofInt, BitVec.toNat_ofInt, hb]
  have e3 : ((w : Int).fdiv ((16 ^ (15 - i) : Nat) : Int)) = ((w / 16 ^ (15 - i) : Nat) : Int) := by
    rw [Int.fdiv_eq_ediv_of_nonneg _ (Int.natCast_nonneg _)]; simp
  rw [e3]
  have e4 : ((((w / 16 ^ (15 - i) : Nat) : Int) % ((2 ^ 64 : Nat) : Int)).toNat) = (w / 16 ^ (15 - i)) % 2 ^ 64 := by omega
  have e5 : ((15 : Int) % ((2 ^ 64 : Nat) : Int)).toNat = 2 ^ 4 - 1 := by decide
  rw [e4, e5, Nat.and_two_pow_sub_one_eq_mod]
  omega
theorem hex_c' (B : World) (w : Nat) (hw64 : w < 18446744073709551616) (s : St) (R : Value → St → Prop) (h : ∀ n, s.n ≤ n → R (str (hexS w)) (s.more n)) : CallOK Tryz.prog B 29 #[.int .u64 w] s R := by
  refine call_of (.base Tryz.prog B) (fun _ => none) mixed Tryz.func29 rfl (by simp [Tryz.ntmps29]) (by kernel_rfl) fun hw => ?_
  simp (maxSteps := 2000000) -dsimp (disch := omega) only [↓Tryz.ntmps29, ↓res29, ↓xpre0, xpost0, xpost1, xpost2, xpost3, facts0, facts1, calls0, St.wf.none hw, Nat.add_assoc, ↓reduceIte, Nat.reduceEqDiff, Nat.reduceMul, Nat.reduceAdd, Nat.reduceSub, Nat.reduceLeDiff, Nat.reduceLT, Int.reduceBEq, Int.reduceBNe, Int.reduceEq, Int.reduceNe, Int.reduceLT, Int.reduceLE, Int.reduceToNat, Int.reduceAdd, Int.reduceSub, Int.reduceMul, Int.cast_ofNat_Int]
  refine loop_wf (pl := fun _ => none) mixed (by kernel_rfl) (fun m fr t => ∃ i c, i ≤ 16 ∧ m = 16 - i ∧ fr.ds = [] ∧ Ext s t ∧ s.n + 1 ≤ t.n ∧
      fr.ρ 0 = .int .u64 w ∧ fr.ρ 3 = .pointer (some ⟨s.n, 0, none⟩) ∧ fr.ρ 5 = .int .i64 (i : Nat) ∧ t.h s.n = some (.cells (byteVals ((hexS w).take i) ++ c).toArray 91) ∧ c.length = 16 - i) 16 ?_ ?_
  · refine ⟨0, List.replicate 16 (.int .u8 0), by omega, by omega, rfl, ?_, ?_⟩
    · (repeat (first | with_reducible exact Ext.refl _ | with_reducible assumption | refine Ext.lay ?_ _ _ _ (by omega) (by first | omega | (simp only [lay_n, upd_n, more_n, froz_n]; omega)) | refine Ext.upd ?_ _ _ (by omega) | refine Ext.more ?_ _ (by first | omega | (simp only [lay_n, upd_n, more_n, froz_n]; omega)) | refine Ext.frz ?_ hw _ _ _ (by omega) (by first | omega | (simp only [lay_n, upd_n, more_n, froz_n]; omega))))
    · simp (maxSteps := 2000000) -dsimp (disch := omega) only [List.replicate, byteVals, ↓xpre0, xpost0, xpost1, xpost2, xpost3, facts0, facts1, calls0, St.wf.none hw, Nat.add_assoc, ↓reduceIte, Nat.reduceEqDiff, Nat.reduceMul, Nat.reduceAdd, Nat.reduceSub, Nat.reduceLeDiff, Nat.reduceLT, Int.reduceBEq, Int.reduceBNe, Int.reduceEq, Int.reduceNe, Int.reduceLT, Int.reduceLE, Int.reduceToNat, Int.reduceAdd, Int.reduceSub, Int.reduceMul, Int.cast_ofNat_Int]
      simp [byteVals, List.replicate]
  · rintro m fr t ht ⟨i, c, hi, rfl, hds, hext, hn, h0, h3, h5, m1, hc⟩
    by_cases hlt : i < 16
    · have hlt' : (i : Int) < 16 := by omega
      have hbl : (byteVals ((hexS w).take i)).length = i := by simp [byteVals, hexS_length]; omega
      obtain ⟨v, c', rfl⟩ : ∃ v c', c = v :: c' := by cases c with | nil => simp at hc; omega | cons v c' => exact ⟨v, c', rfl⟩
      have hwr : IntKind.i64.wrap ((i : Int) + 1) = ((i + 1 : Nat) : Int) := by rw [wrap_i64 (by omega) (by omega)]; omega
      have hif : 0 + (i * 1 + 0) < (byteVals ((hexS w).take i) ++ v :: c').length := by simp [hbl]
      have hset : (byteVals ((hexS w).take i) ++ v :: c').set (0 + (i * 1 + 0)) (.int .u8 (#[48, 49, 50, 51, 52, 53, 54, 55, 56, 57, 97, 98, 99, 100, 101, 102].getD (w / 16 ^ (15 - i) % 16) (0 : UInt8)).toNat) = byteVals ((hexS w).take (i + 1)) ++ c' := by
        have e : 0 + (i * 1 + 0) = (byteVals ((hexS w).take i)).length + 0 := by omega
        rw [e, List.set_append_right _ _ (by omega)]
        have hl := hexS_get w i hlt
        rw [List.take_succ_eq_append_getElem (by rw [hexS_length]; exact hlt)]
        rw [List.getElem?_eq_getElem (by rw [hexS_length]; exact hlt), Option.some.injEq] at hl
        simp [byteVals, hl, hexDigits, Array.getD_eq_getD_getElem?, List.getD_eq_getElem?_getD]
      simp (maxSteps := 2000000) -dsimp (disch := omega) only [h0, h3, h5, m1, hds, nib_shift hlt, nib w i hlt, Int.toNat_natCast, hwr, hif, hset, ↓Tryz.ntmps29, ↓res29, ↓xpre0, xpost0, xpost1, xpost2, xpost3, facts0, facts1, calls0, St.wf.none hw, Nat.add_assoc, ↓reduceIte, Nat.reduceEqDiff, Nat.reduceMul, Nat.reduceAdd, Nat.reduceSub, Nat.reduceLeDiff, Nat.reduceLT, Int.reduceBEq, Int.reduceBNe, Int.reduceEq, Int.reduceNe, Int.reduceLT, Int.reduceLE, Int.reduceToNat, Int.reduceAdd, Int.reduceSub, Int.reduceMul, Int.cast_ofNat_Int]
      (repeat' (first | apply And.intro | intro _))
      all_goals first
        | omega
        | (refine ⟨16 - (i + 1), by omega, i + 1, c', by omega, rfl, ?_, by omega, rfl, rfl, by simp at hc; omega⟩
           (repeat (first | with_reducible exact Ext.refl _ | with_reducible assumption | refine Ext.lay ?_ _ _ _ (by omega) (by first | omega | (simp only [lay_n, upd_n, more_n, froz_n]; omega)) | refine Ext.upd ?_ _ _ (by omega) | refine Ext.more ?_ _ (by first | omega | (simp only [lay_n, upd_n, more_n, froz_n]; omega)) | refine Ext.frz ?_ hw _ _ _ (by omega) (by first | omega | (simp only [lay_n, upd_n, more_n, froz_n]; omega)))))
        | skip
    · obtain rfl : i = 16 := by omega
      obtain rfl : c = [] := by cases c with | nil => rfl | cons v c => simp at hc
      have htk : (hexS w).take 16 = hexS w := List.take_of_length_le (by rw [hexS_length]; omega)
      rw [htk, List.append_nil] at m1
      have hcast : ((16 : Nat) : Int) = 16 := rfl
      rw [hcast] at h5
      simp (maxSteps := 2000000) -dsimp (disch := omega) only [h0, h3, h5, m1, hds, Int.lt_irrefl, ↓Tryz.ntmps29, ↓res29, ↓xpre0, xpost0, xpost1, xpost2, xpost3, facts0, facts1, calls0, St.wf.none hw, Nat.add_assoc, ↓reduceIte, Nat.reduceEqDiff, Nat.reduceMul, Nat.reduceAdd, Nat.reduceSub, Nat.reduceLeDiff, Nat.reduceLT, Int.reduceBEq, Int.reduceBNe, Int.reduceEq, Int.reduceNe, Int.reduceLT, Int.reduceLE, Int.reduceToNat, Int.reduceAdd, Int.reduceSub, Int.reduceMul, Int.cast_ofNat_Int]
      have hsl : slAddr (some ⟨s.n, 0, none⟩) 0 16 1 = some ⟨s.n, 0, none⟩ := by simp [slAddr, Addr.add]
      have hrd : ∃ vs, ldN t ⟨s.n, 0, none⟩ 0 16 = some vs ∧ bsOf vs = some (hexS w) := by
        refine ⟨byteVals (hexS w), ?_, bsOf_byteVals _⟩
        have hbl : (byteVals (hexS w)).length = 16 := by simp [byteVals, hexS_length]
        rw [ldN_cells (c := byteVals (hexS w)) (at_of_h m1) rfl 16 0 (by simp [hbl])]
        simp [List.take_of_length_le, hbl]
      have hcv : convK Tryz.prog 44 9 = .other := by kernel_rfl
      rw [hsl, hcv, XConv_bytes hcv (by kernel_rfl) hrd]
      simp (maxSteps := 2000000) -dsimp (disch := omega) only [hds, ↓Tryz.ntmps29, ↓res29, ↓xpre0, xpost0, xpost1, xpost2, xpost3, facts0, facts1, calls0, St.wf.none hw, Nat.add_assoc, ↓reduceIte, Nat.reduceEqDiff, Nat.reduceMul, Nat.reduceAdd, Nat.reduceSub, Nat.reduceLeDiff, Nat.reduceLT, Int.reduceBEq, Int.reduceBNe, Int.reduceEq, Int.reduceNe, Int.reduceLT, Int.reduceLE, Int.reduceToNat, Int.reduceAdd, Int.reduceSub, Int.reduceMul, Int.cast_ofNat_Int]
      refine drop_ext hw ?_ h
      (repeat (first | with_reducible exact Ext.refl _ | with_reducible assumption | refine Ext.lay ?_ _ _ _ (by omega) (by first | omega | (simp only [lay_n, upd_n, more_n, froz_n]; omega)) | refine Ext.upd ?_ _ _ (by omega) | refine Ext.more ?_ _ (by first | omega | (simp only [lay_n, upd_n, more_n, froz_n]; omega)) | refine Ext.frz ?_ hw _ _ _ (by omega) (by first | omega | (simp only [lay_n, upd_n, more_n, froz_n]; omega))))
def hexF : List Value → Option Value
  | [.int .u64 w] => if 0 ≤ w ∧ w < 18446744073709551616 then some (str (hexS w.toNat)) else none
  | _ => none
theorem hex_c (B : World) : ∀ args s K, (Spec.fn hexF).run args s K → CallOK Tryz.prog B 29 args s K.K := by
  refine fn_intro fun l v hF s R h => ?_
  unfold hexF at hF
  split at hF
  rotate_left
  · cases hF
  rename_i w
  split at hF <;> cases hF
  rename_i hw
  obtain ⟨w, rfl⟩ : ∃ n : Nat, w = n := ⟨w.toNat, by omega⟩
  exact hex_c' B w (by omega) s R (by simpa using h)
end Go.Proofs.TX
