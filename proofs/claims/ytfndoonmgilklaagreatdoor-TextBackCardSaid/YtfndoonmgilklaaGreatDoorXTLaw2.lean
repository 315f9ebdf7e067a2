/- The text layer in plain Lean: a line, a script. -/
import Derived.Test.YtfndoonmgilklaaGreatDoorXTPlain
import Derived.Test.YtfndoonmgilklaaGreatDoorXT14
namespace Go.Proofs.TX
open Go
def eqOp (a b : OpS) : Bool := decide (a.dO = b.dO) && decide (a.h = b.h) && decide (a.g = b.g) && decide (a.i = b.i) && decide (a.vk = b.vk) && decide (a.vx = b.vx) && decide (a.w = b.w) && decide (a.kind = b.kind) && decide (a.fields = b.fields) && decide (a.raws = b.raws) && decide (a.policy = b.policy)
theorem eqOp_iff (a b : OpS) : eqOp a b = true ↔ a = b := by
  cases a; cases b
  simp only [eqOp, Bool.and_eq_true, decide_eq_true_eq, OpS.mk.injEq, and_assoc]
theorem eqOp_self (a : OpS) : eqOp a a = true := (eqOp_iff a a).2 rfl
def tailS (o : OpS) : Bs → Bs
  | [] => []
  | c :: u => 32 :: (showS o c.toNat ++ tailS o u)
def lineS (o : OpS) : Option Bs := if opName o.dO = [] ∨ eqOp (plainS o) o = false ∨ mayV o.vk o.vx = false then none else some (opName o.dO ++ tailS o (opUses o.dO))
def valR (w : Bs) : Option (Int × Int) := if w = [110, 105, 108] then some (0, 0) else
  (numberS (if Lib.hasPrefix w [64] = true then Lib.trimPrefix w [64] else w)).bind fun x => if mayV (if Lib.hasPrefix w [64] = true then 2 else 1) x = true then some (if Lib.hasPrefix w [64] = true then 2 else 1, x) else none
def fieldR (o : OpS) (c : Int) (w : Bs) : Option OpS :=
  if c = 112 then (numberS w).bind fun n => if 0 ≤ n ∧ n ≤ 255 then some { o with policy := n } else none
  else if c = 119 then (readW w).map fun x => { o with w := (x : Int) }
  else if c = 118 then (valR w).map fun p => { o with vk := p.1, vx := p.2 }
  else (numberS w).map fun n => withS o c n
def fieldsR : Bs → List Bs → OpS → Option OpS
  | c :: u, w :: ws, o => (fieldR o c.toNat w).bind fun o' => fieldsR u ws o'
  | _, _, o => some o
def parseW (n : Bs) (ws : List Bs) : OpS × Int :=
  if ofS n = 0 then (.zero 0, 11) else if ws.length < (opUses (ofS n)).length then (.zero 0, 14) else if (opUses (ofS n)).length < ws.length then (.zero 0, 15) else
  match fieldsR (opUses (ofS n)) ws (.zero (ofS n)) with
  | some o => (o, 0)
  | none => (.zero 0, 12)
def parseS (l : Bs) : OpS × Int := match splitS 32 l with
  | [] => (.zero 0, 11)
  | n :: ws => parseW n ws
def scriptS : List OpS → Option Bs
  | [] => some []
  | o :: l => (lineS o).bind fun t => (scriptS l).map fun r => t ++ 10 :: r
def skipL (w : Bs) : Bool := decide (w = []) || decide (w.head? = some 35)
def readGo : Nat → List OpS → List Bs → List OpS × Int × Int
  | _, out, [] => (out, 0, 0)
  | i, out, w :: ws => if skipL w = true then readGo (i + 1) out ws else
    if (parseS w).2 ≠ 0 then ([], i + 1, (parseS w).2) else if out.length = 2000 then ([], i + 1, 13) else readGo (i + 1) (out ++ [(parseS w).1]) ws
def readTS (l : Bs) : List OpS × Int × Int := if 20000 < l.length then ([], 0, 13) else readGo 0 [] (splitS 10 l)
end Go.Proofs.TX
/- The text layer's laws, in plain Lean. -/
namespace Go.Proofs.TX
open Go
set_option linter.unusedVariables false
theorem glue_cons_join (c b : UInt8) : ∀ l : List Bs, l ≠ [] → (match glue [b] l with | [] => [] | x :: xs => x ++ (xs.map fun y => c :: y).flatten) = b :: (match l with | [] => [] | x :: xs => x ++ (xs.map fun y => c :: y).flatten)
  | [], h => absurd rfl h
  | x :: xs, _ => rfl
/-- pieces, joined -/
def joinC (c : UInt8) : List Bs → Bs
  | [] => []
  | x :: xs => x ++ (xs.map fun y => c :: y).flatten
theorem join_split (c : UInt8) : ∀ l : Bs, joinC c (splitS c l) = l
  | [] => rfl
  | b :: l => by
    have ih := join_split c l
    rw [splitS_cons]
    split
    · rename_i e
      subst e
      cases hs : splitS b l with
      | nil => exact absurd hs (splitS_ne _ _)
      | cons x xs => rw [hs] at ih; simp only [joinC, List.map_cons, List.flatten_cons, List.nil_append, List.cons_append] at ih ⊢; rw [ih]
    · have := glue_cons_join c b (splitS c l) (splitS_ne _ _)
      show joinC c (glue [b] (splitS c l)) = _
      unfold joinC at ih ⊢
      rw [this, ih]
theorem split_join (c : UInt8) : ∀ (x : Bs) (xs : List Bs), c ∉ x → (∀ y ∈ xs, c ∉ y) → splitS c (x ++ (xs.map fun y => c :: y).flatten) = x :: xs
  | x, [], hx, _ => by simpa using splitS_none c x hx
  | x, y :: ys, hx, h => by
    simp only [List.map_cons, List.flatten_cons, List.cons_append]
    rw [splitS_sep c x _ hx, split_join c y ys (h y (by simp)) (fun z hz => h z (by simp [hz]))]
theorem ofFrom_spec (l : Bs) : ∀ (f i : Nat), f + i = 10 → ofFrom l f i ≠ 0 → 1 ≤ ofFrom l f i ∧ ofFrom l f i ≤ 10 ∧ opName (ofFrom l f i) = l
  | 0, i, _, h => absurd rfl h
  | f + 1, i, hf, h => by
    rw [ofFrom] at h ⊢
    split
    · rename_i e; exact ⟨by omega, by omega, e⟩
    · rename_i e
      rw [if_neg e] at h
      exact ofFrom_spec l f (i + 1) (by omega) h
theorem ofS_spec {l : Bs} (h : ofS l ≠ 0) : 1 ≤ ofS l ∧ ofS l ≤ 10 ∧ opName (ofS l) = l := ofFrom_spec l 10 0 rfl h
theorem ofS_name (d : Int) (h1 : 1 ≤ d) (h2 : d ≤ 10) : ofS (opName d) = d :=
  ten (p := fun d => ofS (opName d) = d) (by refine ⟨?_, ?_, ?_, ?_, ?_, ?_, ?_, ?_, ?_, ?_⟩ <;> decide +kernel) d h1 h2
theorem opName_ne (d : Int) (h : opName d ≠ []) : 1 ≤ d ∧ d ≤ 10 := by
  by_cases hd : 1 ≤ d ∧ d ≤ 10
  · exact hd
  · exact absurd (opName_none hd).1 h
/-! ### hexadecimal -/
theorem hexDigits_dIn (k : Nat) (h : k < 16) : dIn (hexDigits.getD k 0) 16 = k := by
  have := (by decide +kernel : ∀ k : Fin 16, dIn (hexDigits.getD k.val 0) 16 = k.val) ⟨k, h⟩
  exact this
theorem dIn_digit (c : UInt8) (h : ¬ dIn c 16 < 0) : hexDigits.getD (dIn c 16).toNat 0 = c := by
  have : ∀ k, ¬ dIn c k < 0 → hexDigits.getD (dIn c k).toNat 0 = c := by
    intro k
    induction k with
    | zero => intro h; simp [dIn] at h
    | succ k ih =>
      intro h
      unfold dIn at h ⊢
      split
      · rename_i e; simpa using e
      · rename_i e; rw [if_neg e] at h; exact ih h
  exact this 16 h
def hexN (n w : Nat) : Bs := (List.range n).map fun i => hexDigits.getD (w / 16 ^ (n - 1 - i) % 16) 0
theorem hexN_succ (n w : Nat) : hexN (n + 1) w = hexDigits.getD (w / 16 ^ n % 16) 0 :: hexN n w := by
  unfold hexN
  rw [List.range_succ_eq_map, List.map_cons, List.map_map]
  simp only [Nat.add_sub_cancel, Nat.sub_zero, List.cons.injEq, true_and]
  apply List.map_congr_left
  intro i hi
  have hi := List.mem_range.1 hi
  simp only [Function.comp]
  congr 4; omega
theorem rdW_hexN : ∀ (n w acc : Nat), rdW (hexN n w) acc = some (acc * 16 ^ n + w % 16 ^ n)
  | 0, w, acc => by simp [hexN, rdW, Nat.mod_one]
  | n + 1, w, acc => by
    rw [hexN_succ, rdW, hexDigits_dIn _ (Nat.mod_lt _ (by omega)), if_neg (by omega), rdW_hexN n w]
    congr 1
    rw [Int.toNat_natCast]
    have e1 : (16 * acc + w / 16 ^ n % 16) * 16 ^ n = 16 * (acc * 16 ^ n) + 16 ^ n * (w / 16 ^ n % 16) := by rw [Nat.add_mul, Nat.mul_assoc, Nat.mul_comm (w / 16 ^ n % 16)]
    have e2 : acc * (16 ^ n * 16) = 16 * (acc * 16 ^ n) := by rw [← Nat.mul_assoc, Nat.mul_comm]
    rw [Nat.pow_succ, Nat.mod_mul, e1, e2]; omega
theorem readW_hexS (w : Nat) (h : w < 18446744073709551616) : readW (hexS w) = some w := by
  unfold readW
  rw [if_pos (hexS_length w)]
  have : hexS w = hexN 16 w := rfl
  rw [this, rdW_hexN]
  congr 1
  have : (16 : Nat) ^ 16 = 18446744073709551616 := by decide
  rw [this, Nat.mod_eq_of_lt h]; omega
theorem rdW_some : ∀ (l : Bs) (acc w : Nat), rdW l acc = some w → acc * 16 ^ l.length ≤ w ∧ w < (acc + 1) * 16 ^ l.length ∧ hexN l.length w = l
  | [], acc, w, h => by simp [rdW] at h; subst h; simp [hexN]
  | c :: l, acc, w, h => by
    rw [rdW] at h
    split at h
    · cases h
    · rename_i hc
      obtain ⟨h1, h2, h3⟩ := rdW_some l _ _ h
      have hd := dIn_bound c 16
      obtain ⟨d, hd'⟩ : ∃ d : Nat, dIn c 16 = d := ⟨(dIn c 16).toNat, by omega⟩
      rw [hd', Int.toNat_natCast] at h1 h2
      have hlt : d < 16 := by omega
      have hp : 0 < 16 ^ l.length := Nat.pow_pos (by omega)
      refine ⟨?_, ?_, ?_⟩
      · rw [List.length_cons, Nat.pow_succ]
        refine Nat.le_trans ?_ h1
        rw [Nat.mul_comm (16 ^ l.length) 16, ← Nat.mul_assoc]
        exact Nat.mul_le_mul_right _ (by omega)
      · rw [List.length_cons, Nat.pow_succ]
        refine Nat.lt_of_lt_of_le h2 ?_
        rw [Nat.mul_comm (16 ^ l.length) 16, ← Nat.mul_assoc]
        exact Nat.mul_le_mul_right _ (by omega)
      · rw [List.length_cons, hexN_succ, h3]
        congr 1
        have e : w / 16 ^ l.length = 16 * acc + d := by
          apply Nat.div_eq_of_lt_le
          · exact h1
          · exact h2
        rw [e, Nat.mul_add_mod, Nat.mod_eq_of_lt hlt]
        have := dIn_digit c hc
        rw [hd', Int.toNat_natCast] at this
        exact this
theorem readW_some {l : Bs} {w : Nat} (h : readW l = some w) : hexS w = l ∧ w < 18446744073709551616 := by
  unfold readW at h
  split at h
  · rename_i hl
    obtain ⟨_, h2, h3⟩ := rdW_some l 0 w h
    rw [hl] at h2 h3
    exact ⟨h3, by simpa using h2⟩
  · cases h
/-! ### values -/
theorem num_show {w : Bs} {n : Int} (h : numberS w = some n) : Lib.itoa n = w ∧ i64ok n := by
  have := (numberS_iff w n).1 h
  exact ⟨this.1.symm, this.2⟩
theorem show_num {n : Int} (h : i64ok n) : numberS (Lib.itoa n) = some n := (numberS_iff _ n).2 ⟨rfl, h.1, h.2⟩
theorem mayV_i64 {k x : Int} (h : mayV k x = true) : i64ok x ∧ (k = 0 ∧ x = 0 ∨ k = 1 ∨ k = 2 ∧ 0 ≤ x) := by
  unfold mayV at h
  unfold i64ok
  split at h
  · simp at h; omega
  · split at h
    · simp at h; omega
    · split at h
      · simp at h; omega
      · cases h
theorem itoa_chars (v : Int) : ∀ b ∈ Lib.itoa v, b.toNat = 45 ∨ (48 ≤ b.toNat ∧ b.toNat ≤ 57) := by
  have hd : ∀ (l : Bs) (acc n : Nat), decAcc acc l = some n → ∀ b ∈ l, 48 ≤ b.toNat ∧ b.toNat ≤ 57 := by
    intro l
    induction l with
    | nil => intro _ _ _ b hb; cases hb
    | cons c l ih =>
      intro acc n h b hb
      rw [decAcc] at h
      split at h
      · rename_i hc
        rcases List.mem_cons.1 hb with rfl | hb
        · exact hc
        · exact ih _ _ h b hb
      · cases h
  unfold Lib.itoa
  split
  · intro b hb
    rcases List.mem_cons.1 hb with rfl | hb
    · exact .inl rfl
    · exact .inr (hd _ _ _ (decAcc_digits _) b hb)
  · intro b hb
    exact .inr (hd _ _ _ (decAcc_digits _) b hb)
theorem itoa_head (v : Int) : ∃ b l, Lib.itoa v = b :: l ∧ (b.toNat = 45 ∨ (48 ≤ b.toNat ∧ b.toNat ≤ 57)) := by
  cases h : Lib.itoa v with
  | nil =>
    unfold Lib.itoa at h
    split at h
    · cases h
    · exact absurd h (decDigits_ne _)
  | cons b l => exact ⟨b, l, rfl, itoa_chars v b (by rw [h]; simp)⟩
theorem hasP (b : UInt8) (l : Bs) : Lib.hasPrefix (b :: l) [64] = decide (b = 64) := by
  simp only [Lib.hasPrefix, List.isPrefixOf, Bool.and_true]
  by_cases h : b = 64
  · subst h; rfl
  · have : (64 == b) = false := by simpa using Ne.symm h
    rw [this]; simp [h]
theorem trimP (l : Bs) : Lib.trimPrefix (64 :: l) [64] = l := by
  have := hasP 64 l
  simp only [Lib.trimPrefix]
  simp [Lib.hasPrefix] at *
theorem valR_show {k x : Int} (h : mayV k x = true) : valR (valText k x) = some (k, x) := by
  obtain ⟨hx, hk⟩ := mayV_i64 h
  unfold valText
  rw [if_pos h]
  rcases hk with ⟨rfl, rfl⟩ | rfl | ⟨rfl, h0⟩
  · rfl
  · rw [if_neg (by omega), if_pos rfl]
    obtain ⟨b, l, hb, hc⟩ := itoa_head x
    have hn : Lib.itoa x ≠ [110, 105, 108] := by
      rw [hb]; intro e; simp at e; rw [e.1] at hc
      have : (110 : UInt8).toNat = 110 := rfl
      omega
    have hp : Lib.hasPrefix (Lib.itoa x) [64] = false := by
      rw [hb, hasP]; simp; rintro rfl
      have : (64 : UInt8).toNat = 64 := rfl
      omega
    unfold valR
    rw [if_neg hn]
    simp only [hp]
    simp [show_num hx, h]
  · rw [if_neg (by omega), if_neg (by omega)]
    have hp : Lib.hasPrefix (64 :: Lib.itoa x) [64] = true := by rw [hasP]; rfl
    unfold valR
    rw [if_neg (by simp)]
    simp only [hp, if_true, trimP]
    simp [show_num hx, h]
theorem show_valR {w : Bs} {k x : Int} (h : valR w = some (k, x)) : mayV k x = true ∧ valText k x = w := by
  unfold valR at h
  split at h
  · rename_i e; cases h; subst e; exact ⟨rfl, rfl⟩
  · cases hp : Lib.hasPrefix w [64] with
    | true =>
      simp only [hp, if_true] at h
      cases hn : numberS (Lib.trimPrefix w [64]) with
      | none => rw [hn] at h; cases h
      | some v =>
        rw [hn] at h
        simp only [Option.bind_some] at h
        split at h
        · rename_i hm
          cases h
          refine ⟨hm, ?_⟩
          unfold valText
          rw [if_pos hm, if_neg (by omega), if_neg (by omega)]
          obtain ⟨t, rfl⟩ : ∃ t, w = 64 :: t := by
            cases w with
            | nil => simp [Lib.hasPrefix] at hp
            | cons b t => rw [hasP] at hp; simp at hp; exact ⟨t, by rw [hp]⟩
          rw [trimP] at hn
          rw [(num_show hn).1]
        · cases h
    | false =>
      simp only [hp, Bool.false_eq_true, if_false] at h
      cases hn : numberS w with
      | none => rw [hn] at h; cases h
      | some v =>
        rw [hn] at h
        simp only [Option.bind_some] at h
        split at h
        · rename_i hm
          cases h
          refine ⟨hm, ?_⟩
          unfold valText
          rw [if_pos hm, if_neg (by omega), if_pos rfl]
          exact (num_show hn).1
        · cases h
end Go.Proofs.TX
/- The text layer's laws, in plain Lean: a line is read from its words, and back. -/
set_option linter.unusedVariables false
set_option linter.unusedSimpArgs false
namespace Go.Proofs.TX
open Go
def tailW (ws : List Bs) : Bs := (ws.map fun y => (32 : UInt8) :: y).flatten
theorem join32 (n : Bs) (ws : List Bs) : joinC 32 (n :: ws) = n ++ tailW ws := rfl
theorem bind_some' {α β : Type} {x : Option α} {f : α → Option β} {b : β} (h : x.bind f = some b) : ∃ a, x = some a ∧ f a = some b := by
  cases x with
  | none => cases h
  | some a => exact ⟨a, rfl, h⟩
theorem fieldR_num {o o' : OpS} {c : Int} {w : Bs} (h1 : c ≠ 112) (h2 : c ≠ 119) (h3 : c ≠ 118) (h : fieldR o c w = some o') : ∃ n, i64ok n ∧ o' = withS o c n ∧ w = Lib.itoa n := by
  unfold fieldR at h
  rw [if_neg h1, if_neg h2, if_neg h3] at h
  cases hn : numberS w with
  | none => rw [hn] at h; cases h
  | some n =>
    rw [hn] at h
    simp only [Option.map_some, Option.some.injEq] at h
    obtain ⟨e, hi⟩ := num_show hn
    exact ⟨n, hi, h.symm, e.symm⟩
theorem fieldR_p {o o' : OpS} {w : Bs} (h : fieldR o 112 w = some o') : ∃ n, (0 ≤ n ∧ n ≤ 255) ∧ o' = { o with policy := n } ∧ w = Lib.itoa n := by
  unfold fieldR at h
  rw [if_pos rfl] at h
  obtain ⟨n, hn, h⟩ := bind_some' h
  split at h
  · rename_i hb
    cases h
    exact ⟨n, hb, rfl, (num_show hn).1.symm⟩
  · cases h
theorem fieldR_w {o o' : OpS} {w : Bs} (h : fieldR o 119 w = some o') : ∃ n : Nat, n < 18446744073709551616 ∧ o' = { o with w := (n : Int) } ∧ w = hexS n := by
  unfold fieldR at h
  rw [if_neg (by omega), if_pos rfl] at h
  cases hn : readW w with
  | none => rw [hn] at h; cases h
  | some n =>
    rw [hn] at h
    have h : some { o with w := (n : Int) } = some o' := h
    cases h
    obtain ⟨e, hi⟩ := readW_some hn
    exact ⟨n, hi, rfl, e.symm⟩
theorem fieldR_v {o o' : OpS} {w : Bs} (h : fieldR o 118 w = some o') : ∃ k x, mayV k x = true ∧ o' = { o with vk := k, vx := x } ∧ w = valText k x := by
  unfold fieldR at h
  rw [if_neg (by omega), if_neg (by omega), if_pos rfl] at h
  cases hn : valR w with
  | none => rw [hn] at h; cases h
  | some p =>
    rw [hn] at h
    simp only [Option.map_some, Option.some.injEq] at h
    obtain ⟨k, x⟩ := p
    obtain ⟨hi, e⟩ := show_valR hn
    exact ⟨k, x, hi, h.symm, e.symm⟩
theorem fields_line (d : Int) (h1 : 1 ≤ d) (h2 : d ≤ 10) : ∀ (ws : List Bs) (o : OpS), ws.length = (opUses d).length → fieldsR (opUses d) ws (.zero d) = some o →
    o.dO = d ∧ plainS o = o ∧ mayV o.vk o.vx = true ∧ tailS o (opUses d) = tailW ws ∧ o.ok := by
  have hz : i64ok 0 := by unfold i64ok; omega
  refine ten (p := fun d => ∀ (ws : List Bs) (o : OpS), ws.length = (opUses d).length → fieldsR (opUses d) ws (.zero d) = some o →
    o.dO = d ∧ plainS o = o ∧ mayV o.vk o.vx = true ∧ tailS o (opUses d) = tailW ws ∧ o.ok) ?_ d h1 h2
  have hc : ∀ {d : Int}, 1 ≤ d → d ≤ 10 → i64ok d := by intro d h1 h2; unfold i64ok; omega
  have hz2 : (0 : Int) ≤ 0 ∧ (0 : Int) < 18446744073709551616 := by decide
  have hp0 : (0 : Int) ≤ 0 ∧ (0 : Int) ≤ 255 := by decide
  have z2 : ∀ {P : OpS → Prop} {u : Bs} {ws : List Bs} {o o' : OpS}, fieldsR u ws o = some o' → P o → True := fun _ _ => trivial
  refine ⟨?_, ?_, ?_, ?_, ?_, ?_, ?_, ?_, ?_, ?_⟩
  · intro ws o hl h
    obtain ⟨a, b, c, e, rfl⟩ : ∃ a b c e, ws = [a, b, c, e] := by
      match ws, hl with
      | [a, b, c, e], _ => exact ⟨a, b, c, e, rfl⟩
    have h : ((fieldR (.zero 1) 107 a).bind fun o1 => (fieldR o1 102 b).bind fun o2 => (fieldR o2 114 c).bind fun o3 => (fieldR o3 112 e).bind fun o4 => some o4) = some o := h
    obtain ⟨o1, e1, q1⟩ := bind_some' h
    obtain ⟨o2, e2, q2⟩ := bind_some' q1
    obtain ⟨o3, e3, q3⟩ := bind_some' q2
    obtain ⟨o4, e4, q4⟩ := bind_some' q3
    obtain ⟨n1, i1, rfl, rfl⟩ := fieldR_num (by decide) (by decide) (by decide) e1
    obtain ⟨n2, i2, rfl, rfl⟩ := fieldR_num (by decide) (by decide) (by decide) e2
    obtain ⟨n3, i3, rfl, rfl⟩ := fieldR_num (by decide) (by decide) (by decide) e3
    obtain ⟨n4, i4, rfl, rfl⟩ := fieldR_p e4
    cases q4
    exact ⟨rfl, rfl, rfl, by simp only [tailW, List.map, List.flatten, List.append_nil]; rfl, hc (d := 1) (by decide) (by decide), hz, hz, hz, hz, hz, hz2, i1, i2, i3, i4⟩
  · intro ws o hl h
    obtain ⟨a, b, rfl⟩ : ∃ a b, ws = [a, b] := by
      match ws, hl with
      | [a, b], _ => exact ⟨a, b, rfl⟩
    have h : ((fieldR (.zero 2) 104 a).bind fun o1 => (fieldR o1 105 b).bind fun o2 => some o2) = some o := h
    obtain ⟨o1, e1, q1⟩ := bind_some' h
    obtain ⟨o2, e2, q2⟩ := bind_some' q1
    obtain ⟨n1, i1, rfl, rfl⟩ := fieldR_num (by decide) (by decide) (by decide) e1
    obtain ⟨n2, i2, rfl, rfl⟩ := fieldR_num (by decide) (by decide) (by decide) e2
    cases q2
    exact ⟨rfl, rfl, rfl, by simp only [tailW, List.map, List.flatten, List.append_nil]; rfl, hc (d := 2) (by decide) (by decide), i1, hz, i2, hz, hz, hz2, hz, hz, hz, hp0⟩
  · intro ws o hl h
    obtain ⟨a, b, c, rfl⟩ : ∃ a b c, ws = [a, b, c] := by
      match ws, hl with
      | [a, b, c], _ => exact ⟨a, b, c, rfl⟩
    have h : ((fieldR (.zero 3) 104 a).bind fun o1 => (fieldR o1 105 b).bind fun o2 => (fieldR o2 118 c).bind fun o3 => some o3) = some o := h
    obtain ⟨o1, e1, q1⟩ := bind_some' h
    obtain ⟨o2, e2, q2⟩ := bind_some' q1
    obtain ⟨o3, e3, q3⟩ := bind_some' q2
    obtain ⟨n1, i1, rfl, rfl⟩ := fieldR_num (by decide) (by decide) (by decide) e1
    obtain ⟨n2, i2, rfl, rfl⟩ := fieldR_num (by decide) (by decide) (by decide) e2
    obtain ⟨k, x, i3, rfl, rfl⟩ := fieldR_v e3
    cases q3
    obtain ⟨ix, ik⟩ := mayV_i64 i3
    have ik' : i64ok k := by unfold i64ok; omega
    exact ⟨rfl, rfl, i3, by simp only [tailW, List.map, List.flatten, List.append_nil]; rfl, hc (d := 3) (by decide) (by decide), i1, hz, i2, ik', ix, hz2, hz, hz, hz, hp0⟩
  · intro ws o hl h
    obtain ⟨a, b, rfl⟩ : ∃ a b, ws = [a, b] := by
      match ws, hl with
      | [a, b], _ => exact ⟨a, b, rfl⟩
    have h : ((fieldR (.zero 4) 104 a).bind fun o1 => (fieldR o1 105 b).bind fun o2 => some o2) = some o := h
    obtain ⟨o1, e1, q1⟩ := bind_some' h
    obtain ⟨o2, e2, q2⟩ := bind_some' q1
    obtain ⟨n1, i1, rfl, rfl⟩ := fieldR_num (by decide) (by decide) (by decide) e1
    obtain ⟨n2, i2, rfl, rfl⟩ := fieldR_num (by decide) (by decide) (by decide) e2
    cases q2
    exact ⟨rfl, rfl, rfl, by simp only [tailW, List.map, List.flatten, List.append_nil]; rfl, hc (d := 4) (by decide) (by decide), i1, hz, i2, hz, hz, hz2, hz, hz, hz, hp0⟩
  · intro ws o hl h
    obtain ⟨a, b, c, rfl⟩ : ∃ a b c, ws = [a, b, c] := by
      match ws, hl with
      | [a, b, c], _ => exact ⟨a, b, c, rfl⟩
    have h : ((fieldR (.zero 5) 104 a).bind fun o1 => (fieldR o1 105 b).bind fun o2 => (fieldR o2 119 c).bind fun o3 => some o3) = some o := h
    obtain ⟨o1, e1, q1⟩ := bind_some' h
    obtain ⟨o2, e2, q2⟩ := bind_some' q1
    obtain ⟨o3, e3, q3⟩ := bind_some' q2
    obtain ⟨n1, i1, rfl, rfl⟩ := fieldR_num (by decide) (by decide) (by decide) e1
    obtain ⟨n2, i2, rfl, rfl⟩ := fieldR_num (by decide) (by decide) (by decide) e2
    obtain ⟨n3, i3, rfl, rfl⟩ := fieldR_w e3
    cases q3
    exact ⟨rfl, rfl, rfl, by simp only [tailW, List.map, List.flatten, List.append_nil]; rfl, hc (d := 5) (by decide) (by decide), i1, hz, i2, hz, hz, ⟨by show (0:Int) ≤ n3; omega, by show (n3 : Int) < _; omega⟩, hz, hz, hz, hp0⟩
  · intro ws o hl h
    obtain ⟨a, b, rfl⟩ : ∃ a b, ws = [a, b] := by
      match ws, hl with
      | [a, b], _ => exact ⟨a, b, rfl⟩
    have h : ((fieldR (.zero 6) 104 a).bind fun o1 => (fieldR o1 103 b).bind fun o2 => some o2) = some o := h
    obtain ⟨o1, e1, q1⟩ := bind_some' h
    obtain ⟨o2, e2, q2⟩ := bind_some' q1
    obtain ⟨n1, i1, rfl, rfl⟩ := fieldR_num (by decide) (by decide) (by decide) e1
    obtain ⟨n2, i2, rfl, rfl⟩ := fieldR_num (by decide) (by decide) (by decide) e2
    cases q2
    exact ⟨rfl, rfl, rfl, by simp only [tailW, List.map, List.flatten, List.append_nil]; rfl, hc (d := 6) (by decide) (by decide), i1, i2, hz, hz, hz, hz2, hz, hz, hz, hp0⟩
  · intro ws o hl h
    obtain ⟨a, rfl⟩ : ∃ a, ws = [a] := by
      match ws, hl with
      | [a], _ => exact ⟨a, rfl⟩
    have h : ((fieldR (.zero 7) 104 a).bind fun o1 => some o1) = some o := h
    obtain ⟨o1, e1, q1⟩ := bind_some' h
    obtain ⟨n1, i1, rfl, rfl⟩ := fieldR_num (by decide) (by decide) (by decide) e1
    cases q1
    exact ⟨rfl, rfl, rfl, by simp only [tailW, List.map, List.flatten, List.append_nil]; rfl, hc (d := 7) (by decide) (by decide), i1, hz, hz, hz, hz, hz2, hz, hz, hz, hp0⟩
  · intro ws o hl h
    obtain ⟨a, rfl⟩ : ∃ a, ws = [a] := by
      match ws, hl with
      | [a], _ => exact ⟨a, rfl⟩
    have h : ((fieldR (.zero 8) 104 a).bind fun o1 => some o1) = some o := h
    obtain ⟨o1, e1, q1⟩ := bind_some' h
    obtain ⟨n1, i1, rfl, rfl⟩ := fieldR_num (by decide) (by decide) (by decide) e1
    cases q1
    exact ⟨rfl, rfl, rfl, by simp only [tailW, List.map, List.flatten, List.append_nil]; rfl, hc (d := 8) (by decide) (by decide), i1, hz, hz, hz, hz, hz2, hz, hz, hz, hp0⟩
  · intro ws o hl h
    obtain ⟨a, rfl⟩ : ∃ a, ws = [a] := by
      match ws, hl with
      | [a], _ => exact ⟨a, rfl⟩
    have h : ((fieldR (.zero 9) 112 a).bind fun o1 => some o1) = some o := h
    obtain ⟨o1, e1, q1⟩ := bind_some' h
    obtain ⟨n1, i1, rfl, rfl⟩ := fieldR_p e1
    cases q1
    exact ⟨rfl, rfl, rfl, by simp only [tailW, List.map, List.flatten, List.append_nil]; rfl, hc (d := 9) (by decide) (by decide), hz, hz, hz, hz, hz, hz2, hz, hz, hz, i1⟩
  · intro ws o hl h
    obtain ⟨a, rfl⟩ : ∃ a, ws = [a] := by
      match ws, hl with
      | [a], _ => exact ⟨a, rfl⟩
    have h : ((fieldR (.zero 10) 104 a).bind fun o1 => some o1) = some o := h
    obtain ⟨o1, e1, q1⟩ := bind_some' h
    obtain ⟨n1, i1, rfl, rfl⟩ := fieldR_num (by decide) (by decide) (by decide) e1
    cases q1
    exact ⟨rfl, rfl, rfl, by simp only [tailW, List.map, List.flatten, List.append_nil]; rfl, hc (d := 10) (by decide) (by decide), i1, hz, hz, hz, hz, hz2, hz, hz, hz, hp0⟩
theorem parse_some {s : Bs} {o : OpS} (h : parseS s = (o, 0)) : lineS o = some s ∧ o.ok := by
  unfold parseS at h
  have hj := join_split 32 s
  cases hs : splitS 32 s with
  | nil => rw [hs] at h; simp at h
  | cons n ws =>
    rw [hs] at h hj
    simp only [parseW] at h
    split at h
    · simp at h
    · rename_i hd
      split at h
      · simp at h
      · split at h
        · simp at h
        · split at h
          · rename_i o' ho
            simp only [Prod.mk.injEq, and_true] at h
            subst h
            obtain ⟨d1, d2, d3⟩ := ofS_spec hd
            obtain ⟨k1, k2, k3, k4, k5⟩ := fields_line _ d1 d2 ws o' (by omega) ho
            refine ⟨?_, k5⟩
            unfold lineS
            rw [k1, if_neg, d3, k4]
            · rw [join32] at hj; rw [hj]
            · rintro (hh | hh | hh)
              · rw [hh] at d3; rw [← d3] at hd; exact hd (by decide)
              · rw [k2, eqOp_self] at hh; cases hh
              · rw [k3] at hh; cases hh
          · simp at h
end Go.Proofs.TX
