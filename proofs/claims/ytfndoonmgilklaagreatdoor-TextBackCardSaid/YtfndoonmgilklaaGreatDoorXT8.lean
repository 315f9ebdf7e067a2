/- The text layer's functions: word.Read. -/
import Derived.Test.YtfndoonmgilklaaGreatDoorXT6
set_option linter.unusedSimpArgs false
set_option linter.unusedVariables false
set_option maxRecDepth 100000
set_option maxHeartbeats 4000000
namespace Go.Proofs.TX
open Go
/-- the last of the first k digits that a byte is -/
def dIn (c : UInt8) : Nat → Int
  | 0 => -1
  | k + 1 => if hexDigits.getD k 0 = c then k else dIn c k
def rdW : Bs → Nat → Option Nat
  | [], acc => some acc
  | c :: cs, acc => if dIn c 16 < 0 then none else rdW cs (16 * acc + (dIn c 16).toNat)
def readW (l : Bs) : Option Nat := if l.length = 16 then rdW l 0 else none
theorem dIn_bound (c : UInt8) : ∀ k, -1 ≤ dIn c k ∧ dIn c k < k
  | 0 => by simp [dIn]
  | k + 1 => by have := dIn_bound c k; unfold dIn; split <;> omega
theorem digits_getD (k : Nat) : (#[48, 49, 50, 51, 52, 53, 54, 55, 56, 57, 97, 98, 99, 100, 101, 102] : Array UInt8).getD k 0 = hexDigits.getD k 0 := by
  simp [hexDigits, Array.getD_eq_getD_getElem?, List.getD_eq_getElem?_getD]
theorem shl4_or (acc d : Nat) (h : 16 * acc < 18446744073709551616) (hd : d < 16) :
    IntKind.u64.wrap ((BitVec.ofInt IntKind.u64.bits (IntKind.u64.wrap ((acc : Int) * 2 ^ min 4 IntKind.u64.bits)) ||| BitVec.ofInt IntKind.u64.bits (IntKind.u64.wrap (d : Int))).toNat : Int) = ((16 * acc + d : Nat) : Int) := by
  have h2 : (2 : Int) ^ (min 4 IntKind.u64.bits) = 16 := rfl
  have hb : IntKind.u64.bits = 64 := rfl
  rw [h2]
  simp only [u64_wrap]
  rw [BitVec.toNat_or, BitVec.toNat_ofInt, BitVec.toNat_ofInt, hb]
  have e1 : (((acc : Int) * 16 % 18446744073709551616) % ((2 ^ 64 : Nat) : Int)).toNat = 2 ^ 4 * acc := by omega
  have e2 : (((d : Int) % 18446744073709551616) % ((2 ^ 64 : Nat) : Int)).toNat = d := by omega
  rw [e1, e2, ← Nat.two_pow_add_eq_or_of_lt (by omega)]
  omega
def pl48 : Nat → Option DPlan := fun i => if i = 11 then some (tks [0, 1, 2, 3, 4, 5] .done) else none
theorem pl48_11 : pl48 11 = some (tks [0, 1, 2, 3, 4, 5] .done) := rfl
def readF : List Value → Option Value
  | [.string a] => some (match readW a.data.toList with | some w => .tuple #[.int .u64 (w : Nat), .int .i64 0] | none => .tuple #[.int .u64 0, .int .i64 4])
  | _ => none
theorem read_c (B : World) : ∀ args s K, (Spec.fn readF).run args s K → CallOK Tryz.prog B 48 args s K.K := by
  refine fn_intro fun l v hF s R h => ?_
  unfold readF at hF
  split at hF <;> cases hF
  rename_i a
  obtain ⟨l, rfl⟩ : ∃ l : Bs, a = ⟨l.toArray⟩ := ⟨a.data.toList, by simp⟩
  refine call_of (.base Tryz.prog B) pl48 mixed Tryz.func48 rfl (by simp [Tryz.ntmps48]) (by kernel_rfl) fun hw => ?_
  simp (maxSteps := 2000000) -dsimp (disch := omega) only [pl48_11, ↓Tryz.ntmps48, ↓res48, ↓xpre0, xpost0, xpost1, xpost2, xpost3, facts0, facts1, calls0, St.wf.none hw, Nat.add_assoc, ↓reduceIte, Nat.reduceEqDiff, Nat.reduceMul, Nat.reduceAdd, Nat.reduceSub, Nat.reduceLeDiff, Nat.reduceLT, Int.reduceBEq, Int.reduceBNe, Int.reduceEq, Int.reduceNe, Int.reduceLT, Int.reduceLE, Int.reduceToNat, Int.reduceAdd, Int.reduceSub, Int.reduceMul, Int.cast_ofNat_Int]
  have e0 : (ByteArray.mk l.toArray).data.toList = l := by simp
  rw [e0] at h
  refine ⟨fun hne => ?_, fun heq => ?_⟩
  · refine drop_ext hw (Ext.refl s) (fun n hn => ?_)
    have : readW l = none := by unfold readW; rw [if_neg (by omega)]
    rw [this] at h; exact h n hn
  · have hl : l.length = 16 := by omega
    refine loop_wf (pl := pl48) mixed (by kernel_rfl) (fun m fr t => ∃ i acc, i ≤ 16 ∧ m = 16 - i ∧ t = s ∧ fr.ds = [] ∧ fr.ρ 0 = str l ∧ fr.ρ 12 = .int .i64 16 ∧ fr.ρ 13 = .int .i64 (i : Nat) ∧ fr.ρ 4 = .int .u64 (acc : Nat) ∧
      acc < 16 ^ i ∧ rdW l 0 = rdW (l.drop i) acc) 16 ?_ ?_
    · refine ⟨0, 0, by omega, by omega, rfl, rfl, ?_⟩
      simp (maxSteps := 2000000) -dsimp (disch := omega) only [hl, ↓xpre0, xpost0, xpost1, xpost2, xpost3, facts0, facts1, calls0, St.wf.none hw, Nat.add_assoc, ↓reduceIte, Nat.reduceEqDiff, Nat.reduceMul, Nat.reduceAdd, Nat.reduceSub, Nat.reduceLeDiff, Nat.reduceLT, Int.reduceBEq, Int.reduceBNe, Int.reduceEq, Int.reduceNe, Int.reduceLT, Int.reduceLE, Int.reduceToNat, Int.reduceAdd, Int.reduceSub, Int.reduceMul, Int.cast_ofNat_Int]
      simp [rdW]
    · rintro m fr t ht ⟨i, acc, hi, rfl, rfl, hds, h0, h12, h13, h4, hacc, hrd⟩
      by_cases hlt : i < 16
      · have hlt' : (i : Int) < 16 := by omega
        simp (maxSteps := 2000000) -dsimp (disch := omega) only [h0, h12, h13, h4, hds, pl48_11, hlt', ↓Tryz.ntmps48, ↓res48, ↓xpre0, xpost0, xpost1, xpost2, xpost3, facts0, facts1, calls0, St.wf.none hw, Nat.add_assoc, ↓reduceIte, Nat.reduceEqDiff, Nat.reduceMul, Nat.reduceAdd, Nat.reduceSub, Nat.reduceLeDiff, Nat.reduceLT, Int.reduceBEq, Int.reduceBNe, Int.reduceEq, Int.reduceNe, Int.reduceLT, Int.reduceLE, Int.reduceToNat, Int.reduceAdd, Int.reduceSub, Int.reduceMul, Int.cast_ofNat_Int]
        have hli : i < l.length := by omega
        refine loop_wf (pl := pl48) mixed ?_ (fun m fr u => ∃ k, k ≤ 16 ∧ m = 16 - k ∧ u = t ∧ fr.ds = [] ∧ fr.ρ 0 = str l ∧ fr.ρ 12 = .int .i64 16 ∧ fr.ρ 13 = .int .i64 (i : Nat) ∧ fr.ρ 4 = .int .u64 (acc : Nat) ∧
          fr.ρ 5 = .int .i64 (i : Nat) ∧ fr.ρ 16 = .int .i64 (k : Nat) ∧ fr.ρ 6 = .int .i64 (dIn l[i] k)) 16 ?_ ?_
        · kernel_rfl
        · refine ⟨0, by omega, by omega, rfl, ?_⟩
          simp (maxSteps := 2000000) -dsimp (disch := omega) only [h0, h12, h13, h4, hds, ↓xpre0, xpost0, xpost1, xpost2, xpost3, facts0, facts1, calls0, St.wf.none hw, Nat.add_assoc, ↓reduceIte, Nat.reduceEqDiff, Nat.reduceMul, Nat.reduceAdd, Nat.reduceSub, Nat.reduceLeDiff, Nat.reduceLT, Int.reduceBEq, Int.reduceBNe, Int.reduceEq, Int.reduceNe, Int.reduceLT, Int.reduceLE, Int.reduceToNat, Int.reduceAdd, Int.reduceSub, Int.reduceMul, Int.cast_ofNat_Int]
          simp [dIn]
        · rintro m fr u hu ⟨k, hk, rfl, rfl, hds, h0, h12, h13, h4, h5, h16, h6⟩
          by_cases hkt : k < 16
          · have hkt' : (k : Int) < 16 := by omega
            have hwk : IntKind.i64.wrap ((k : Int) + 1) = ((k + 1 : Nat) : Int) := by rw [wrap_i64 (by omega) (by omega)]; omega
            simp (maxSteps := 2000000) -dsimp (disch := omega) only [h0, h12, h13, h4, h5, h16, h6, hds, pl48_11, hkt', hwk, Int.toNat_natCast, ↓Tryz.ntmps48, ↓res48, ↓xpre0, xpost0, xpost1, xpost2, xpost3, facts0, facts1, calls0, St.wf.none hw, Nat.add_assoc, ↓reduceIte, Nat.reduceEqDiff, Nat.reduceMul, Nat.reduceAdd, Nat.reduceSub, Nat.reduceLeDiff, Nat.reduceLT, Int.reduceBEq, Int.reduceBNe, Int.reduceEq, Int.reduceNe, Int.reduceLT, Int.reduceLE, Int.reduceToNat, Int.reduceAdd, Int.reduceSub, Int.reduceMul, Int.cast_ofNat_Int]
            have hg : l.toArray.getD i 0 = l[i] := by simp [hli]
            rw [digits_getD, hg]
            refine ⟨by omega, fun _ => ⟨⟨by omega, by omega⟩, fun _ => ⟨fun e => ?_, fun e => ?_⟩⟩⟩
            · have e' : hexDigits.getD k 0 = l[i] := UInt8.toNat_inj.1 (by omega)
              exact ⟨16 - (k + 1), by omega, k + 1, by omega, rfl, rfl, by rw [dIn, if_pos e']⟩
            · have e' : ¬ hexDigits.getD k 0 = l[i] := fun x => e (by rw [x])
              exact ⟨16 - (k + 1), by omega, k + 1, by omega, rfl, rfl, by rw [dIn, if_neg e']⟩
          · obtain rfl : k = 16 := by omega
            have hcast : ((16 : Nat) : Int) = 16 := rfl
            rw [hcast] at h16
            simp (maxSteps := 2000000) -dsimp (disch := omega) only [h0, h12, h13, h4, h5, h16, h6, hds, pl48_11, Int.lt_irrefl, Int.toNat_natCast, ↓Tryz.ntmps48, ↓res48, ↓xpre0, xpost0, xpost1, xpost2, xpost3, facts0, facts1, calls0, St.wf.none hw, Nat.add_assoc, ↓reduceIte, Nat.reduceEqDiff, Nat.reduceMul, Nat.reduceAdd, Nat.reduceSub, Nat.reduceLeDiff, Nat.reduceLT, Int.reduceBEq, Int.reduceBNe, Int.reduceEq, Int.reduceNe, Int.reduceLT, Int.reduceLE, Int.reduceToNat, Int.reduceAdd, Int.reduceSub, Int.reduceMul, Int.cast_ofNat_Int]
            have hdr : l.drop i = l[i] :: l.drop (i + 1) := List.drop_eq_getElem_cons hli
            rw [hdr] at hrd
            have hb := dIn_bound l[i] 16
            refine ⟨fun hneg => ?_, fun hpos => ?_⟩
            · have : readW l = none := by unfold readW; rw [if_pos hl, hrd, rdW, if_pos hneg]
              rw [this] at h
              exact drop_ext hw (Ext.refl u) h
            · rw [rdW, if_neg hpos] at hrd
              have hp : 16 ^ i ≤ 16 ^ 15 := Nat.pow_le_pow_right (by omega) (by omega)
              have hp' : (16 : Nat) ^ 15 = 1152921504606846976 := by decide
              obtain ⟨d, hd⟩ : ∃ d : Nat, dIn l[i] 16 = d := ⟨(dIn l[i] 16).toNat, by omega⟩
              rw [hd, shl4_or acc d (by omega) (by omega), wrap_i64 (by omega) (by omega)]
              rw [hd, Int.toNat_natCast] at hrd
              refine ⟨16 - (i + 1), by omega, i + 1, 16 * acc + d, by omega, rfl, rfl, rfl, ?_, hrd⟩
              rw [Nat.pow_succ]; omega
      · obtain rfl : i = 16 := by omega
        have hcast : ((16 : Nat) : Int) = 16 := rfl
        rw [hcast] at h13
        simp (maxSteps := 2000000) -dsimp (disch := omega) only [h0, h12, h13, h4, hds, pl48_11, Int.lt_irrefl, ↓Tryz.ntmps48, ↓res48, ↓xpre0, xpost0, xpost1, xpost2, xpost3, facts0, facts1, calls0, St.wf.none hw, Nat.add_assoc, ↓reduceIte, Nat.reduceEqDiff, Nat.reduceMul, Nat.reduceAdd, Nat.reduceSub, Nat.reduceLeDiff, Nat.reduceLT, Int.reduceBEq, Int.reduceBNe, Int.reduceEq, Int.reduceNe, Int.reduceLT, Int.reduceLE, Int.reduceToNat, Int.reduceAdd, Int.reduceSub, Int.reduceMul, Int.cast_ofNat_Int]
        have : readW l = some acc := by
          unfold readW; rw [if_pos hl, hrd, List.drop_of_length_le (by omega)]; rfl
        rw [this] at h
        exact drop_ext hw (Ext.refl t) h
end Go.Proofs.TX
/- The text layer's functions: show. -/
set_option linter.unusedSimpArgs false
set_option linter.unusedVariables false
set_option maxRecDepth 100000
set_option maxHeartbeats 4000000
namespace Go.Proofs.TX
open Go
def i64ok (n : Int) : Prop := -9223372036854775808 ≤ n ∧ n ≤ 9223372036854775807
structure OpS.ok (o : OpS) : Prop where
  dO : i64ok o.dO
  h : i64ok o.h
  g : i64ok o.g
  i : i64ok o.i
  vk : i64ok o.vk
  vx : i64ok o.vx
  w : 0 ≤ o.w ∧ o.w < 18446744073709551616
  kind : i64ok o.kind
  fields : i64ok o.fields
  raws : i64ok o.raws
  policy : 0 ≤ o.policy ∧ o.policy ≤ 255
/-- the number in the field of a letter -/
def numS (o : OpS) (c : Int) : Int := if c = 107 then o.kind else if c = 102 then o.fields else if c = 114 then o.raws else if c = 104 then o.h else if c = 103 then o.g else o.i
theorem numS_ok {o : OpS} (ho : o.ok) (c : Int) : i64ok (numS o c) := by
  unfold numS
  (repeat' split) <;> first | exact ho.kind | exact ho.fields | exact ho.raws | exact ho.h | exact ho.g | exact ho.i
def showS (o : OpS) (c : Int) : Bs := if c = 112 then Lib.itoa o.policy else if c = 119 then hexS o.w.toNat else if c = 118 then valText o.vk o.vx else Lib.itoa (numS o c)
def showOk (o : OpS) (c : Int) : Bool := if c = 118 then decide (valText o.vk o.vx ≠ [63]) else true
noncomputable def eShow (B : World) (hB : Good B) : Env Tryz.prog := ((((Env.base Tryz.prog B).ext 27 (.fn itoaF) (itoa_c B hB)).ext 29 (.fn hexF) (hex_c B)).ext 50 (.fn spotF) (spot_c B)).ext 28 (.fn (fun l => match l with | [.agg c] => (match c.toList with | [.int .i64 k, .int .i64 x] => some (str (valText k x)) | _ => none) | _ => none)) (by
  refine fn_intro fun l v hF s R h => ?_
  split at hF
  · rename_i c
    split at hF
    · rename_i k x hc
      cases hF
      have e : c = #[.int .i64 k, .int .i64 x] := by rw [← Array.toArray_toList (xs := c), hc]
      subst e
      exact text_c' B hB k x s R h
    · cases hF
  · cases hF)
theorem eShow_27 (B : World) (hB : Good B) {n : Int} (h : i64ok n) (s : St) (K : Kp (Value → St → Prop)) : XCallOK Tryz.prog (eShow B hB) 27 #[.int .i64 n] s K = ∀ k, K.K (str (Lib.itoa n)) (s.more (s.n + k)) :=
  (show _ = (Spec.fn itoaF).run #[.int .i64 n] s K from rfl).trans (Spec.fn_run (by simp [itoaF, h.1, h.2]) s K)
theorem eShow_29 (B : World) (hB : Good B) {w : Int} (h : 0 ≤ w ∧ w < 18446744073709551616) (s : St) (K : Kp (Value → St → Prop)) : XCallOK Tryz.prog (eShow B hB) 29 #[.int .u64 w] s K = ∀ k, K.K (str (hexS w.toNat)) (s.more (s.n + k)) :=
  (show _ = (Spec.fn hexF).run #[.int .u64 w] s K from rfl).trans (Spec.fn_run (by simp [hexF, h.1, h.2]) s K)
theorem eShow_50 (B : World) (hB : Good B) (b : Nat) (c : Int) (s : St) (K : Kp (Value → St → Prop)) : XCallOK Tryz.prog (eShow B hB) 50 #[.pointer (some ⟨b, 0, none⟩), .int .i32 c] s K = ∀ k, K.K (.pointer (some ⟨b, spotOff c, none⟩)) (s.more (s.n + k)) := rfl
theorem eShow_28 (B : World) (hB : Good B) (k x : Int) (s : St) (K : Kp (Value → St → Prop)) : XCallOK Tryz.prog (eShow B hB) 28 #[.agg #[.int .i64 k, .int .i64 x]] s K = ∀ j, K.K (str (valText k x)) (s.more (s.n + j)) := rfl
theorem spot_cell (o : OpS) (c : Int) : o.cells[spotOff c]? = some (.int .i64 (numS o c)) := by
  unfold spotOff numS
  (repeat' split) <;> first | rfl | contradiction
theorem show_c' (B : World) (hB : Good B) (o : OpS) (ho : o.ok) (c : Int) (s : St) (R : Value → St → Prop) (h : ∀ n, s.n ≤ n → R (.tuple #[str (showS o c), .bool (showOk o c)]) (s.more n)) :
    CallOK Tryz.prog B 25 #[o.val, .int .i32 c] s R := by
  have hsc := spot_cell o c
  simp only [OpS.cells] at hsc
  have hnil : ∀ l : Bs, (ByteArray.mk l.toArray = ByteArray.mk #[63]) = (l = [63]) := fun l => propext (bs_inj l [63])
  refine call_of (eShow B hB) (fun _ => none) mixed Tryz.func25 rfl (by simp [Tryz.ntmps25]) (by kernel_rfl) fun hw => ?_
  simp (maxSteps := 2000000) -dsimp (disch := omega) only [OpS.cells, eShow_27 B hB (n := o.policy) ⟨by have := ho.policy; omega, by have := ho.policy; omega⟩, eShow_29 B hB ho.w, eShow_50, eShow_28, eShow_27 B hB (numS_ok ho c), wrap_i64 (n := o.policy) (by have := ho.policy; omega) (by have := ho.policy; omega), hnil, Nat.zero_add, hsc, ↓Tryz.ntmps25, ↓res25, ↓xpre0, xpost0, xpost1, xpost2, xpost3, facts0, facts1, calls0, St.wf.none hw, Nat.add_assoc, ↓reduceIte, Nat.reduceEqDiff, Nat.reduceMul, Nat.reduceAdd, Nat.reduceSub, Nat.reduceLeDiff, Nat.reduceLT, Int.reduceBEq, Int.reduceBNe, Int.reduceEq, Int.reduceNe, Int.reduceLT, Int.reduceLE, Int.reduceToNat, Int.reduceAdd, Int.reduceSub, Int.reduceMul, Int.cast_ofNat_Int]
  have fin : ∀ (t : St) (v : Value), Ext s t → v = .tuple #[str (showS o c), .bool (showOk o c)] → Drop R v t := by
    rintro t v he rfl
    exact drop_ext hw he h
  (repeat' (first | apply And.intro | intro _))
  all_goals
    refine fin _ _ ?_ ?_
    · (repeat (first | with_reducible exact Ext.refl _ | with_reducible assumption | refine Ext.lay ?_ _ _ _ (by omega) (by first | omega | (simp only [lay_n, upd_n, more_n, froz_n]; omega)) | refine Ext.upd ?_ _ _ (by omega) | refine Ext.more ?_ _ (by first | omega | (simp only [lay_n, upd_n, more_n, froz_n]; omega)) | refine Ext.frz ?_ hw _ _ _ (by omega) (by first | omega | (simp only [lay_n, upd_n, more_n, froz_n]; omega))))
    · simp_all [showS, showOk]
/-- an op out of its cells -/
def ofCells : List Value → Option OpS
  | [.int .i64 dO, .int .i64 h, .int .i64 g, .int .i64 i, .int .i64 vk, .int .i64 vx, .int .u64 w, .int .i64 kind, .int .i64 fields, .int .i64 raws, .int .u8 policy] => some ⟨dO, h, g, i, vk, vx, w, kind, fields, raws, policy⟩
  | _ => none
theorem ofCells_cells (o : OpS) : ofCells o.cells = some o := rfl
theorem ofCells_some {l : List Value} {o : OpS} (h : ofCells l = some o) : l = o.cells := by
  unfold ofCells at h
  split at h
  · cases h; rfl
  · cases h
end Go.Proofs.TX
