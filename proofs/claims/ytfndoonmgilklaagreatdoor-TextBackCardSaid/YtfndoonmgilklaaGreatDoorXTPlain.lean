/- What the text layer computes, in plain Lean. -/
import Derived.Lib.ItoaNum
import GoSem.Core.Utf8
import Derived.Lib.AtoiAll
import Derived.Lib.ItoaLen
import Derived.Lib.SplitLaws
import Derived.Lib.AtoiAllCases
namespace Go.Proofs.TX
open Go
abbrev Bs := List UInt8
abbrev str (l : Bs) : Value := .string ⟨l.toArray⟩
structure OpS where
  dO : Int
  h : Int
  g : Int
  i : Int
  vk : Int
  vx : Int
  w : Int
  kind : Int
  fields : Int
  raws : Int
  policy : Int
def OpS.cells (o : OpS) : List Value := [.int .i64 o.dO, .int .i64 o.h, .int .i64 o.g, .int .i64 o.i, .int .i64 o.vk, .int .i64 o.vx, .int .u64 o.w, .int .i64 o.kind, .int .i64 o.fields, .int .i64 o.raws, .int .u8 o.policy]
abbrev OpS.val (o : OpS) : Value := .agg o.cells.toArray
def opTab : List (Bs × Bs) := [([110, 101, 119], [107, 102, 114, 112]), ([108, 111, 97, 100], [104, 105]), ([115, 116, 111, 114, 101], [104, 105, 118]), ([114, 101, 97, 100], [104, 105]), ([119, 114, 105, 116, 101], [104, 105, 119]),
  ([115, 97, 109, 101], [104, 103]), ([100, 117, 112], [104]), ([114, 101, 108, 101, 97, 115, 101], [104]), ([99, 111, 108, 108, 101, 99, 116], [112]), ([119, 104, 97, 116], [104])]
def opRow (d : Int) : Option (Bs × Bs) := if 1 ≤ d ∧ d ≤ 10 then opTab[(d - 1).toNat]? else none
def opName (d : Int) : Bs := match opRow d with | some r => r.1 | none => []
def opUses (d : Int) : Bs := match opRow d with | some r => r.2 | none => []
def opFn (d : Int) : Value := if 1 ≤ d ∧ d ≤ 10 then .func (.func (58 + 2 * d.toNat)) #[] #[] else .nilFunc
theorem ten {p : Int → Prop} (h : p 1 ∧ p 2 ∧ p 3 ∧ p 4 ∧ p 5 ∧ p 6 ∧ p 7 ∧ p 8 ∧ p 9 ∧ p 10) (d : Int) (h1 : 1 ≤ d) (h2 : d ≤ 10) : p d := by
  have : d = 1 ∨ d = 2 ∨ d = 3 ∨ d = 4 ∨ d = 5 ∨ d = 6 ∨ d = 7 ∨ d = 8 ∨ d = 9 ∨ d = 10 := by omega
  obtain ⟨a, b, c, e, f, g, i, j, k, l⟩ := h
  rcases this with rfl | rfl | rfl | rfl | rfl | rfl | rfl | rfl | rfl | rfl <;> assumption
theorem opName_none {d : Int} (h : ¬ (1 ≤ d ∧ d ≤ 10)) : opName d = [] ∧ opUses d = [] ∧ opFn d = .nilFunc := by simp [opName, opUses, opRow, opFn, h]
def OpS.zero (d : Int) : OpS := ⟨d, 0, 0, 0, 0, 0, 0, 0, 0, 0, 0⟩
/-- a letter's field is taken over -/
def letter (o out : OpS) (c : Nat) : OpS :=
  if c = 107 then { out with kind := o.kind } else if c = 102 then { out with fields := o.fields } else if c = 114 then { out with raws := o.raws } else if c = 112 then { out with policy := o.policy }
  else if c = 104 then { out with h := o.h } else if c = 103 then { out with g := o.g } else if c = 105 then { out with i := o.i } else if c = 118 then { out with vk := o.vk, vx := o.vx } else if c = 119 then { out with w := o.w } else out
def plainGo (o : OpS) (l : Bs) : OpS := l.foldl (fun out c => letter o out c.toNat) (.zero o.dO)
def plainS (o : OpS) : OpS := plainGo o (opUses o.dO)
theorem plainGo_snoc (o : OpS) (l : Bs) (p : Nat) (hp : p < l.length) : plainGo o (l.take (p + 1)) = letter o (plainGo o (l.take p)) l[p].toNat := by
  unfold plainGo
  rw [List.take_succ_eq_append_getElem hp, List.foldl_append]; rfl
theorem opUses_ascii (d : Int) : ∀ c ∈ opUses d, c.toNat < 128 := by
  unfold opUses opRow
  split
  · rename_i r hr
    split at hr
    · rename_i hd
      have := ten (p := fun d => ∀ r, opTab[(d - 1).toNat]? = some r → ∀ c ∈ r.2, c.toNat < 128) (by
        refine ⟨?_, ?_, ?_, ?_, ?_, ?_, ?_, ?_, ?_, ?_⟩ <;> (intro r hr; cases hr; decide)) d hd.1 hd.2
      exact this r hr
    · cases hr
  · simp
/-- a string of ASCII, byte by byte -/
theorem decode_ascii (l : Bs) (p : Nat) (hp : p < l.length) (h : l[p].toNat < 128) : Utf8.decode ⟨l.toArray⟩ p = (l[p].toNat, 1) := by
  have e : (ByteArray.mk l.toArray).get! p = l[p] := by
    show l.toArray[p]! = l[p]
    simp [hp]
  simp only [Utf8.decode, Nat.add_zero, e]
  rw [if_pos (by omega)]
/-- Atoi: what it hands back beside the error -/
def atoiN (l : Bs) : Int := match Lib.atoiAll l with | .ok v => v | .range => Lib.atoiSat l | _ => 0
theorem atoi_range {l : Bs} {v : Int} (h : Lib.atoiAll l = .ok v) : -9223372036854775808 ≤ v ∧ v ≤ 9223372036854775807 := by
  unfold Lib.atoiAll at h
  split at h
  · cases h
  · simp only at h
    split at h
    · cases h
    · cases h
    · split at h
      · cases h
      · split at h
        · cases h
        · cases h
          split <;> omega
/-- a number's word -/
def numberS (l : Bs) : Option Int := match Lib.atoiAll l with | .ok v => if Lib.itoa v = l then some v else none | _ => none
/-- may a value be? -/
def mayV (k x : Int) : Bool := if k = 0 then decide (x = 0) else if k = 1 then decide (-2305843009213693952 ≤ x ∧ x ≤ 2305843009213693951) else if k = 2 then decide (0 ≤ x ∧ x ≤ 1099511627776) else false
/-- a value's word -/
def encW (k x : Int) : Int := if k = 0 then 0 else (4 * x + k) % 18446744073709551616
def valText (k x : Int) : Bs := if mayV k x = true then (if k = 0 then [110, 105, 108] else if k = 1 then Lib.itoa x else 64 :: Lib.itoa x) else [63]
end Go.Proofs.TX
/- The text layer in plain Lean: numbers' words, split words. -/
namespace Go.Proofs.TX
open Go
/-! ### numbers' words -/
def decAcc : Nat → Bs → Option Nat
  | acc, [] => some acc
  | acc, c :: l => if 48 ≤ c.toNat ∧ c.toNat ≤ 57 then decAcc (10 * acc + (c.toNat - 48)) l else none
theorem decAcc_le : ∀ (l : Bs) (acc n : Nat), decAcc acc l = some n → acc ≤ n
  | [], acc, n, h => by simp [decAcc] at h; omega
  | c :: l, acc, n, h => by
    unfold decAcc at h
    split at h
    · have := decAcc_le l _ _ h; omega
    · cases h
theorem decAcc_append : ∀ (l r : Bs) (acc : Nat), decAcc acc (l ++ r) = (decAcc acc l).bind fun a => decAcc a r
  | [], r, acc => rfl
  | c :: l, r, acc => by
    simp only [List.cons_append, decAcc]
    split
    · exact decAcc_append l r _
    · rfl
theorem digit_nat (d : Nat) (h : d < 10) : (UInt8.ofNat (48 + d)).toNat = 48 + d := by
  simp only [UInt8.toNat_ofNat']; omega
theorem decAcc_one (acc d : Nat) (h : d < 10) : decAcc acc [UInt8.ofNat (48 + d)] = some (10 * acc + d) := by
  have := digit_nat d h
  simp only [decAcc, this]
  rw [if_pos (by omega)]; congr 1; omega
theorem decAcc_digits (u : Nat) : decAcc 0 (Lib.decDigits u) = some u := by
  induction u using Nat.strongRecOn with
  | _ u ih =>
    rw [Lib.decDigits]
    split
    · rename_i h; rw [decAcc_one 0 u h]; congr 1; omega
    · rw [decAcc_append, ih (u / 10) (by omega)]
      show decAcc (u / 10) _ = _
      rw [decAcc_one _ _ (by omega)]; congr 1; omega
theorem decDigits_ne (u : Nat) : Lib.decDigits u ≠ [] := by
  rw [Lib.decDigits]; split <;> simp
theorem decDigits_head (u : Nat) : (Lib.decDigits u).head? = some 48 → u = 0 := by
  induction u using Nat.strongRecOn with
  | _ u ih =>
    rw [Lib.decDigits]
    split
    · rename_i h
      intro e
      simp only [List.head?_cons, Option.some.injEq] at e
      have := digit_nat u h
      rw [e] at this
      have h48 : (48 : UInt8).toNat = 48 := rfl
      omega
    · intro e
      obtain ⟨c, l, hc⟩ : ∃ c l, Lib.decDigits (u / 10) = c :: l := by
        cases hd : Lib.decDigits (u / 10) with
        | nil => exact absurd hd (decDigits_ne _)
        | cons c l => exact ⟨c, l, rfl⟩
      rw [hc] at e
      have := ih (u / 10) (by omega) (by rw [hc]; simpa using e)
      omega
theorem digits_of_dec : ∀ (k : Nat) (d : Bs) (n : Nat), d.length = k → d ≠ [] → (d.head? = some 48 → d = [48]) → decAcc 0 d = some n → Lib.decDigits n = d := by
  intro k
  induction k with
  | zero => intro d n hl hne; exact absurd (List.length_eq_zero_iff.1 hl) hne
  | succ k ih =>
    intro d n hl hne hz h
    obtain ⟨e, c, rfl⟩ : ∃ e c, d = e ++ [c] := ⟨d.dropLast, d.getLast hne, (List.dropLast_concat_getLast hne).symm⟩
    rw [decAcc_append] at h
    cases he : decAcc 0 e with
    | none => simp [he] at h
    | some m =>
      rw [he] at h
      simp only [Option.bind_some, decAcc] at h
      split at h
      · rename_i hc
        cases h
        have hcc : UInt8.ofNat (48 + (c.toNat - 48)) = c := by
          apply UInt8.toNat_inj.1; rw [digit_nat _ (by omega)]; omega
        cases e with
        | nil =>
          simp only [decAcc, Option.some.injEq] at he
          subst he
          rw [Lib.decDigits, dif_pos (by omega)]
          simp only [List.nil_append, List.cons.injEq, and_true]
          rw [← hcc]; congr 1; simp only [UInt8.toNat_ofNat']; omega
        | cons x e =>
          have hx : x ≠ 48 := by rintro rfl; have := hz rfl; simp at this
          have h1 := ih (x :: e) m (by simpa using hl) (by simp) (by intro e; simp at e; exact absurd e hx) he
          have hm : 1 ≤ m := by
            rcases Nat.eq_zero_or_pos m with rfl | h
            · rw [Lib.decDigits, dif_pos (by omega)] at h1
              simp only [List.cons.injEq] at h1
              exact absurd h1.1.symm hx
            · exact h
          rw [Lib.decDigits, dif_neg (by omega)]
          have e1 : (10 * m + (c.toNat - 48)) / 10 = m := by omega
          have e2 : (10 * m + (c.toNat - 48)) % 10 = c.toNat - 48 := by omega
          rw [e1, e2, h1, hcc]
      · cases h
theorem pow_digits (u : Nat) (h : 10 ≤ u) : 10 ^ ((Lib.decDigits u).length - 1) ≤ u := by
  induction u using Nat.strongRecOn with
  | _ u ih =>
    rw [Lib.decDigits, dif_neg (by omega)]
    simp only [List.length_append, List.length_singleton, Nat.add_sub_cancel]
    by_cases h2 : u / 10 < 10
    · have : (Lib.decDigits (u / 10)).length = 1 := by rw [Lib.decDigits, dif_pos h2]; rfl
      rw [this]; omega
    · have := ih (u / 10) (by omega) (by omega)
      have hl : 1 ≤ (Lib.decDigits (u / 10)).length := by
        cases hd : Lib.decDigits (u / 10) with
        | nil => exact absurd hd (decDigits_ne _)
        | cons => simp
      obtain ⟨k, hk⟩ : ∃ k, (Lib.decDigits (u / 10)).length = k + 1 := ⟨(Lib.decDigits (u / 10)).length - 1, by omega⟩
      rw [hk] at this ⊢
      rw [Nat.add_sub_cancel] at this
      rw [Nat.pow_succ]; omega
theorem digits_length (u : Nat) (h : u < 10 ^ 19) : (Lib.decDigits u).length ≤ 19 := by
  by_cases h2 : u < 10
  · rw [Lib.decDigits, dif_pos h2]; simp
  · have := pow_digits u (by omega)
    by_cases hl : (Lib.decDigits u).length ≤ 19
    · exact hl
    · have : 10 ^ 19 ≤ 10 ^ ((Lib.decDigits u).length - 1) := Nat.pow_le_pow_right (by omega) (by omega)
      omega
theorem parse_dec : ∀ (l : Bs) (acc n : Nat), decAcc acc l = some n → n < 18446744073709551616 → Lib.parseUint10 acc l = .ok n
  | [], acc, n, h, _ => by simp [decAcc] at h; subst h; rfl
  | c :: l, acc, n, h, hn => by
    unfold decAcc at h
    split at h
    · rename_i hc
      have := decAcc_le l _ _ h
      have e : acc * 10 + (c.toNat - 48) = 10 * acc + (c.toNat - 48) := by omega
      rw [Lib.parseUint10, if_pos hc, if_neg (by omega), if_neg (by omega), e]
      exact parse_dec l _ _ h hn
    · cases h
theorem parseMag_digits (u : Nat) (h : u < 18446744073709551616) : Lib.parseMag (Lib.decDigits u) = .ok u := by
  unfold Lib.parseMag
  rw [if_neg (decDigits_ne u)]
  exact parse_dec _ _ _ (decAcc_digits u) h
theorem digits_head_ge (u : Nat) : ∀ c l, Lib.decDigits u = c :: l → 48 ≤ c.toNat ∧ c.toNat ≤ 57 := by
  intro c l h
  have := decAcc_digits u
  rw [h, decAcc] at this
  split at this
  · assumption
  · cases this
theorem atoi_itoa (v : Int) (h0 : -9223372036854775808 ≤ v) (h1 : v ≤ 9223372036854775807) : Lib.atoiAll (Lib.itoa v) = .ok v := by
  unfold Lib.itoa
  split
  · rw [Lib.atoiAll_minus, parseMag_digits v.natAbs (by omega)]
    simp only [Lib.signed]
    rw [if_neg (by omega)]
    congr 1; omega
  · obtain ⟨c, l, hc⟩ : ∃ c l, Lib.decDigits v.toNat = c :: l := by
      cases hd : Lib.decDigits v.toNat with
      | nil => exact absurd hd (decDigits_ne _)
      | cons c l => exact ⟨c, l, rfl⟩
    have hcd := digits_head_ge _ _ _ hc
    have hp := parseMag_digits v.toNat (by omega)
    rw [hc] at hp ⊢
    rw [Lib.atoiAll_plain c l (by omega) (by omega), hp]
    simp only [Lib.signless]
    rw [if_neg (by omega)]
    congr 1; omega
theorem numberS_iff (l : Bs) (v : Int) : numberS l = some v ↔ l = Lib.itoa v ∧ -9223372036854775808 ≤ v ∧ v ≤ 9223372036854775807 := by
  constructor
  · intro h
    unfold numberS at h
    split at h
    · rename_i u hu
      split at h
      · rename_i e; cases h; exact ⟨e.symm, atoi_range hu⟩
      · cases h
    · cases h
  · rintro ⟨rfl, h0, h1⟩
    unfold numberS
    rw [atoi_itoa v h0 h1]
    simp
/-- the document's reading -/
def numM (neg : Bool) (l d : Bs) : Option Int := if d = [] ∨ 19 < d.length ∨ (d.head? = some 48 ∧ l ≠ [48]) then none else
  (decAcc 0 d).bind fun n => if neg = true then (if n ≤ 9223372036854775808 then some (-(n : Int)) else none) else if n ≤ 9223372036854775807 then some (n : Int) else none
def numR (l : Bs) : Option Int := if l.head? = some 45 then numM true l (l.drop 1) else numM false l l
theorem numM_some {neg : Bool} {l d : Bs} {v : Int} (h : numM neg l d = some v) : d ≠ [] ∧ (d.head? = some 48 → l = [48]) ∧ ∃ n, decAcc 0 d = some n ∧ (neg = true → n ≤ 9223372036854775808 ∧ v = -(n : Int)) ∧ (neg = false → n ≤ 9223372036854775807 ∧ v = n) := by
  unfold numM at h
  split at h
  · cases h
  · rename_i hg
    simp only [not_or, not_and, Decidable.not_not] at hg
    obtain ⟨g1, g2, g3⟩ := hg
    cases hd : decAcc 0 d with
    | none => rw [hd] at h; cases h
    | some n =>
      rw [hd] at h
      simp only [Option.bind_some] at h
      refine ⟨g1, g3, n, rfl, ?_, ?_⟩
      · rintro rfl
        rw [if_pos rfl] at h
        split at h
        · cases h; exact ⟨by assumption, rfl⟩
        · cases h
      · rintro rfl
        rw [if_neg (by simp)] at h
        split at h
        · cases h; exact ⟨by assumption, rfl⟩
        · cases h
theorem numM_of {neg : Bool} {l d : Bs} {n : Nat} (g1 : d ≠ []) (g2 : d.length ≤ 19) (g3 : d.head? = some 48 → l = [48]) (hd : decAcc 0 d = some n) :
    numM neg l d = if neg = true then (if n ≤ 9223372036854775808 then some (-(n : Int)) else none) else if n ≤ 9223372036854775807 then some (n : Int) else none := by
  unfold numM
  rw [if_neg (by
    rintro (h | h | ⟨h, h2⟩)
    · exact g1 h
    · omega
    · exact h2 (g3 h)), hd]
  rfl
theorem numR_iff (l : Bs) (v : Int) : numR l = some v ↔ l = Lib.itoa v ∧ -9223372036854775808 ≤ v ∧ v ≤ 9223372036854775807 := by
  constructor
  · intro h
    unfold numR at h
    by_cases hneg : l.head? = some 45
    · rw [if_pos hneg] at h
      obtain ⟨t, rfl⟩ : ∃ t, l = 45 :: t := by cases l with | nil => simp at hneg | cons a t => simp at hneg; exact ⟨t, by rw [hneg]⟩
      obtain ⟨g1, g3, n, hn, hv, _⟩ := numM_some h
      simp only [List.drop_succ_cons, List.drop_zero] at g1 g3 hn
      obtain ⟨hb, rfl⟩ := hv rfl
      have hz : t.head? = some 48 → t = [48] := fun e => by have := g3 e; simp at this
      have hd := digits_of_dec _ t n rfl g1 hz hn
      have hn0 : n ≠ 0 := by
        rintro rfl
        rw [Lib.decDigits, dif_pos (by omega)] at hd
        have := g3 (by rw [← hd]; rfl)
        simp at this
      refine ⟨?_, by omega, by omega⟩
      unfold Lib.itoa
      rw [if_pos (by omega)]
      have e : (-(n : Int)).natAbs = n := by omega
      rw [e, hd]
    · rw [if_neg hneg] at h
      obtain ⟨g1, g3, n, hn, _, hv⟩ := numM_some h
      obtain ⟨hb, rfl⟩ := hv rfl
      have hd := digits_of_dec _ l n rfl g1 (fun e => g3 e) hn
      refine ⟨?_, by omega, by omega⟩
      unfold Lib.itoa
      rw [if_neg (by omega)]
      have e : ((n : Int)).toNat = n := by omega
      rw [e, hd]
  · rintro ⟨rfl, h0, h1⟩
    unfold numR
    by_cases hv : v < 0
    · have e : Lib.itoa v = 45 :: Lib.decDigits v.natAbs := by unfold Lib.itoa; rw [if_pos hv]
      rw [e, if_pos List.head?_cons, List.drop_succ_cons, List.drop_zero]
      have hl := digits_length v.natAbs (by omega)
      rw [numM_of (n := v.natAbs) (decDigits_ne _) hl (fun h => by have := decDigits_head _ h; omega) (decAcc_digits _), if_pos rfl, if_pos (by omega)]
      congr 1; omega
    · have e : Lib.itoa v = Lib.decDigits v.toNat := by unfold Lib.itoa; rw [if_neg hv]
      rw [e]
      have hne : (Lib.decDigits v.toNat).head? ≠ some 45 := by
        cases hd : Lib.decDigits v.toNat with
        | nil => exact absurd hd (decDigits_ne _)
        | cons c l =>
          have := digits_head_ge _ _ _ hd
          intro h; simp at h; subst h
          have h45 : (45 : UInt8).toNat = 45 := rfl
          omega
      have hl := digits_length v.toNat (by omega)
      rw [if_neg hne, numM_of (n := v.toNat) (decDigits_ne _) hl (fun h => by
        have := decDigits_head _ h
        rw [this, Lib.decDigits, dif_pos (by omega)]; rfl) (decAcc_digits _), if_neg (by simp), if_pos (by omega)]
      congr 1; omega
theorem numR_eq (l : Bs) : numR l = numberS l := Option.ext fun v => (numR_iff l v).trans (numberS_iff l v).symm
/-! ### split words -/
def splitS (c : UInt8) : Bs → List Bs
  | [] => [[]]
  | b :: l => if b = c then [] :: splitS c l else match splitS c l with
    | x :: xs => (b :: x) :: xs
    | [] => [[b]]
theorem splitS_ne (c : UInt8) (l : Bs) : splitS c l ≠ [] := by
  cases l with
  | nil => simp [splitS]
  | cons b l => unfold splitS; split <;> (try split) <;> simp
/-- what is ahead is put to the first piece -/
def glue (p : Bs) : List Bs → List Bs
  | x :: xs => (p ++ x) :: xs
  | [] => [p]
theorem glue_nil (l : List Bs) (h : l ≠ []) : glue [] l = l := by cases l <;> simp_all [glue]
theorem splitS_cons (c b : UInt8) (l : Bs) : splitS c (b :: l) = if b = c then [] :: splitS c l else glue [b] (splitS c l) := by
  rw [splitS]; split
  · rfl
  · cases splitS c l <;> rfl
theorem glue_glue (p q : Bs) (l : List Bs) (h : l ≠ []) : glue p (glue q l) = glue (p ++ q) l := by cases l <;> simp_all [glue]
theorem splitS_pre (c : UInt8) : ∀ (p l : Bs), c ∉ p → splitS c (p ++ l) = glue p (splitS c l)
  | [], l, _ => (glue_nil _ (splitS_ne c l)).symm
  | b :: p, l, h => by
    have h1 : b ≠ c := fun e => h (by simp [e])
    have h2 : c ∉ p := fun e => h (by simp [e])
    rw [List.cons_append, splitS_cons, if_neg h1, splitS_pre c p l h2, glue_glue _ _ _ (splitS_ne c l)]; rfl
theorem splitS_sep (c : UInt8) (p l : Bs) (h : c ∉ p) : splitS c (p ++ c :: l) = p :: splitS c l := by
  rw [splitS_pre c p _ h, splitS_cons, if_pos rfl]; simp [glue]
theorem splitS_none (c : UInt8) (p : Bs) (h : c ∉ p) : splitS c p = [p] := by
  have := splitS_pre c p [] h
  simpa [splitS, glue] using this
theorem split_eq (c : UInt8) : ∀ (k : Nat) (s : Bs), s.length ≤ k → Lib.splitK [c] 0 (Lib.count s [c]) s = splitS c s := by
  intro k
  induction k with
  | zero =>
    intro s hs
    have : s = [] := List.length_eq_zero_iff.1 (by omega)
    subst this; rw [Lib.count_miss (by simp [Lib.index])]; rfl
  | succ k ih =>
    intro s hs
    by_cases hc : c ∈ s
    · obtain ⟨p, l, rfl, hp⟩ : ∃ p l, s = p ++ c :: l ∧ c ∉ p := by
        obtain ⟨p, l, e⟩ := List.append_of_mem hc
        clear ih hs
        induction s generalizing p l with
        | nil => simp at hc
        | cons b s ihs =>
          by_cases hb : b = c
          · exact ⟨[], s, by simp [hb], by simp⟩
          · have hc' : c ∈ s := by
              rcases List.mem_cons.1 hc with rfl | h
              · exact absurd rfl hb
              · exact h
            obtain ⟨p', l', e'⟩ := List.append_of_mem hc'
            obtain ⟨p2, l2, e2, h2⟩ := ihs hc' p' l' e'
            exact ⟨b :: p2, l2, by rw [e2]; rfl, by simp [h2, Ne.symm hb]⟩
      have hix : Lib.index (p ++ c :: l) [c] = (p.length : Nat) := by
        refine Lib.index_first (by simp) ?_ ?_
        · simp [Lib.occAt]
        · intro j hj
          simp only [Lib.occAt, List.drop_append_of_le_length (Nat.le_of_lt hj)]
          have : p.drop j ≠ [] := by simp; omega
          cases hd : p.drop j with
          | nil => exact absurd hd this
          | cons x xs =>
            have hx : x ∈ p := List.mem_of_mem_drop (i := j) (by rw [hd]; simp)
            have : c ≠ x := fun e => hp (e ▸ hx)
            simp [List.isPrefixOf, this]
      rw [Lib.count_hit (by simp) hix, Nat.add_comm, Lib.splitK, if_neg (by rw [hix]; simp; try omega), hix]
      simp only [Int.toNat_natCast, Nat.add_zero, List.length_singleton, List.take_left']
      have hd : (p ++ c :: l).drop (p.length + 1) = l := by rw [← List.drop_drop, List.drop_left']; rfl; try rfl
      rw [hd, ih l (by simp at hs; omega), splitS_sep c p l hp]
    · rw [Lib.count_one, List.count_eq_zero_of_not_mem hc, splitS_none c s hc]; rfl
theorem splitB_eq (c : UInt8) (a : Bs) : (Lib.splitB ⟨#[c]⟩ 0 (Lib.countB ⟨a.toArray⟩ ⟨#[c]⟩) ⟨a.toArray⟩).map (·.data.toList) = splitS c a := by
  rw [Lib.splitB_data]
  exact split_eq c _ a (Nat.le_refl _)
end Go.Proofs.TX
