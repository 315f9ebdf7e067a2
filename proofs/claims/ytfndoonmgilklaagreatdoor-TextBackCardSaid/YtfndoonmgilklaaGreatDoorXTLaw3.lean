/- The text layer in plain Lean: words of a line. -/
import Derived.Test.YtfndoonmgilklaaGreatDoorXTLaw2
import Derived.Test.YtfndoonmgilklaaGreatDoorXOps9
set_option linter.unusedVariables false
set_option linter.unusedSimpArgs false
namespace Go.Proofs.TX
open Go
theorem eqOp_eqL (a b : OpS) : eqL [.int .i64 a.dO, .int .i64 a.h, .int .i64 a.g, .int .i64 a.i, .int .i64 a.vk, .int .i64 a.vx, .int .u64 a.w, .int .i64 a.kind, .int .i64 a.fields, .int .i64 a.raws, .int .u8 a.policy]
    [.int .i64 b.dO, .int .i64 b.h, .int .i64 b.g, .int .i64 b.i, .int .i64 b.vk, .int .i64 b.vx, .int .u64 b.w, .int .i64 b.kind, .int .i64 b.fields, .int .i64 b.raws, .int .u8 b.policy] = eqOp a b := by
  simp only [eqL_cons, eqL_nil, eqV_int, eqOp, Bool.and_true, Bool.and_assoc]
  rfl
theorem valText_bad {k x : Int} (h : mayV k x = true) : valText k x ≠ [63] := by
  unfold valText
  rw [if_pos h]
  split
  · simp
  · split
    · intro e
      have := itoa_chars x 63 (by rw [e]; simp)
      have h63 : (63 : UInt8).toNat = 63 := rfl
      omega
    · intro e; simp at e
theorem showOk_false {o : OpS} {c : Int} (h : showOk o c = false) : mayV o.vk o.vx = false := by
  unfold showOk at h
  split at h
  · cases hm : mayV o.vk o.vx with
    | false => rfl
    | true => have := valText_bad hm; simp [this] at h
  · cases h
theorem showOk_v {o : OpS} (h : showOk o 118 = true) : mayV o.vk o.vx = true := by
  cases hm : mayV o.vk o.vx with
  | true => rfl
  | false => simp [showOk, valText, hm] at h
theorem line_may {o : OpS} (hp : eqOp (plainS o) o = true) (hn : opName o.dO ≠ []) (hs : ∀ c ∈ opUses o.dO, showOk o c.toNat = true) : mayV o.vk o.vx = true := by
  obtain ⟨h1, h2⟩ := opName_ne _ hn
  have hp := (eqOp_iff _ _).1 hp
  have key : ∀ d : Int, 1 ≤ d → d ≤ 10 → ∀ o : OpS, o.dO = d → plainS o = o → (∀ c ∈ opUses o.dO, showOk o c.toNat = true) → mayV o.vk o.vx = true := by
    intro d h1 h2
    refine ten (p := fun d => ∀ o : OpS, o.dO = d → plainS o = o → (∀ c ∈ opUses o.dO, showOk o c.toNat = true) → mayV o.vk o.vx = true) ?_ d h1 h2
    refine ⟨?_, ?_, ?_, ?_, ?_, ?_, ?_, ?_, ?_, ?_⟩
    case refine_3 =>
      rintro ⟨d, h, g, i, vk, vx, w, kind, fields, raws, policy⟩ rfl _ hs
      exact showOk_v (hs 118 (show (118 : UInt8) ∈ opUses 3 by decide))
    all_goals
      rintro ⟨d, h, g, i, vk, vx, w, kind, fields, raws, policy⟩ rfl hp _
      have e1 := congrArg OpS.vk hp
      have e2 := congrArg OpS.vx hp
      have e1 : 0 = vk := e1
      have e2 : 0 = vx := e2
      show mayV vk vx = true
      rw [← e1, ← e2]; rfl
  exact key _ h1 h2 o rfl hp hs
def wordsS (o : OpS) (u : Bs) : List Bs := u.map fun c => showS o c.toNat
theorem join_words (o : OpS) (n : Bs) (u : Bs) : Lib.join (n :: wordsS o u) [32] = n ++ tailS o u := by
  have : ∀ (u : Bs) (n : Bs), ([32] : Bs).intercalate (n :: wordsS o u) = n ++ tailS o u := by
    intro u
    induction u with
    | nil => intro n; simp [wordsS, tailS, List.intercalate]
    | cons c u ih =>
      intro n
      have := ih (showS o c.toNat)
      simp only [wordsS, List.map_cons, tailS] at this ⊢
      rw [List.intercalate_cons_cons, this]; simp
  exact this u n
theorem wordsS_snoc (o : OpS) (u : Bs) (p : Nat) (hp : p < u.length) : wordsS o (u.take (p + 1)) = wordsS o (u.take p) ++ [showS o u[p].toNat] := by
  unfold wordsS
  rw [List.take_succ_eq_append_getElem hp, List.map_append]; rfl
theorem showS_length {o : OpS} (ho : o.ok) (c : Int) : (showS o c).length ≤ 30 := by
  unfold showS
  have h1 := Lib.itoa_length_le o.policy (by have := ho.policy; omega) (by have := ho.policy; omega)
  have h2 := hexS_length o.w.toNat
  have h3 := Lib.itoa_length_le o.vx ho.vx.1 ho.vx.2
  have h4 := Lib.itoa_length_le (numS o c) (numS_ok ho c).1 (numS_ok ho c).2
  (repeat' split) <;> try omega
  unfold valText
  (repeat' split) <;> simp <;> omega
theorem tailS_length {o : OpS} (ho : o.ok) : ∀ u : Bs, (tailS o u).length ≤ 31 * u.length
  | [] => by simp [tailS]
  | c :: u => by
    have := tailS_length ho u
    have := showS_length ho c.toNat
    simp only [tailS, List.length_cons, List.length_append]; omega
theorem opName_length (d : Int) : (opName d).length ≤ 7 := by
  by_cases h : 1 ≤ d ∧ d ≤ 10
  · exact ten (p := fun d => (opName d).length ≤ 7) (by refine ⟨?_, ?_, ?_, ?_, ?_, ?_, ?_, ?_, ?_, ?_⟩ <;> decide) d h.1 h.2
  · rw [(opName_none h).1]; simp
def rowsOf (l : List Bs) : List (List Value) := l.map fun x => [str x]
theorem rowsOf_flat : ∀ l : List Bs, (rowsOf l).flatten = l.map str
  | [] => rfl
  | x :: l => by
    have := rowsOf_flat l
    simp only [rowsOf, List.map_cons, List.flatten_cons, List.singleton_append] at this ⊢
    rw [this]
theorem rowsOf_get (l : List Bs) (j : Nat) (x : Bs) (h : l[j]? = some x) (rest : List Value) : ((rowsOf l).flatten ++ rest)[j]? = some (str x) := by
  have hj := (List.getElem?_eq_some_iff.1 h).1
  rw [rowsOf_flat, List.getElem?_append_left (by simpa using hj)]; simp [h]
end Go.Proofs.TX
/- The text layer's laws, in plain Lean: the line of an op is read back. -/
set_option linter.unusedVariables false
set_option linter.unusedSimpArgs false
namespace Go.Proofs.TX
open Go
theorem fieldR_numF {o : OpS} {c n : Int} (h1 : c ≠ 112) (h2 : c ≠ 119) (h3 : c ≠ 118) (h : i64ok n) : fieldR o c (Lib.itoa n) = some (withS o c n) := by
  unfold fieldR
  rw [if_neg h1, if_neg h2, if_neg h3, show_num h]; rfl
theorem fieldR_pF {o : OpS} {n : Int} (h : 0 ≤ n ∧ n ≤ 255) : fieldR o 112 (Lib.itoa n) = some { o with policy := n } := by
  unfold fieldR
  rw [if_pos rfl, show_num (n := n) (by unfold i64ok; omega)]
  show (if 0 ≤ n ∧ n ≤ 255 then some _ else none) = _
  rw [if_pos h]
theorem fieldR_wF {o : OpS} {n : Int} (h : 0 ≤ n ∧ n < 18446744073709551616) : fieldR o 119 (hexS n.toNat) = some { o with w := n } := by
  unfold fieldR
  rw [if_neg (by omega), if_pos rfl, readW_hexS _ (by omega)]
  show some { o with w := (n.toNat : Int) } = _
  have e : (n.toNat : Int) = n := by omega
  rw [e]
theorem fieldR_vF {o : OpS} {k x : Int} (h : mayV k x = true) : fieldR o 118 (valText k x) = some { o with vk := k, vx := x } := by
  unfold fieldR
  rw [if_neg (by omega), if_neg (by omega), if_pos rfl, valR_show h]; rfl
theorem fstep {o o' : OpS} {c : Int} {w : Bs} {f : OpS → Option OpS} {r : Option OpS} (h : fieldR o c w = some o') (hf : f o' = r) : (fieldR o c w).bind f = r := by rw [h]; exact hf
theorem line_fields (d : Int) (h1 : 1 ≤ d) (h2 : d ≤ 10) : ∀ o : OpS, o.dO = d → plainS o = o → mayV o.vk o.vx = true → o.ok → fieldsR (opUses d) (wordsS o (opUses d)) (.zero d) = some o := by
  refine ten (p := fun d => ∀ o : OpS, o.dO = d → plainS o = o → mayV o.vk o.vx = true → o.ok → fieldsR (opUses d) (wordsS o (opUses d)) (.zero d) = some o) ?_ d h1 h2
  refine ⟨?_, ?_, ?_, ?_, ?_, ?_, ?_, ?_, ?_, ?_⟩
  · rintro ⟨d, h, g, i, vk, vx, w, kind, fields, raws, policy⟩ rfl hp hm ho
    have hp : (⟨1, 0, 0, 0, 0, 0, 0, kind, fields, raws, policy⟩ : OpS) = ⟨1, h, g, i, vk, vx, w, kind, fields, raws, policy⟩ := hp
    cases hp
    show ((fieldR (.zero 1) 107 (Lib.itoa kind)).bind fun o1 => (fieldR o1 102 (Lib.itoa fields)).bind fun o2 => (fieldR o2 114 (Lib.itoa raws)).bind fun o3 => (fieldR o3 112 (Lib.itoa policy)).bind fun o4 => some o4) = _
    refine fstep (fieldR_numF (by decide) (by decide) (by decide) ho.kind) ?_
    refine fstep (fieldR_numF (by decide) (by decide) (by decide) ho.fields) ?_
    refine fstep (fieldR_numF (by decide) (by decide) (by decide) ho.raws) ?_
    refine fstep (fieldR_pF ho.policy) ?_
    rfl
  · rintro ⟨d, h, g, i, vk, vx, w, kind, fields, raws, policy⟩ rfl hp hm ho
    have hp : (⟨2, h, 0, i, 0, 0, 0, 0, 0, 0, 0⟩ : OpS) = ⟨2, h, g, i, vk, vx, w, kind, fields, raws, policy⟩ := hp
    cases hp
    show ((fieldR (.zero 2) 104 (Lib.itoa h)).bind fun o1 => (fieldR o1 105 (Lib.itoa i)).bind fun o2 => some o2) = _
    refine fstep (fieldR_numF (by decide) (by decide) (by decide) ho.h) ?_
    refine fstep (fieldR_numF (by decide) (by decide) (by decide) ho.i) ?_
    rfl
  · rintro ⟨d, h, g, i, vk, vx, w, kind, fields, raws, policy⟩ rfl hp hm ho
    have hp : (⟨3, h, 0, i, vk, vx, 0, 0, 0, 0, 0⟩ : OpS) = ⟨3, h, g, i, vk, vx, w, kind, fields, raws, policy⟩ := hp
    cases hp
    show ((fieldR (.zero 3) 104 (Lib.itoa h)).bind fun o1 => (fieldR o1 105 (Lib.itoa i)).bind fun o2 => (fieldR o2 118 (valText vk vx)).bind fun o3 => some o3) = _
    refine fstep (fieldR_numF (by decide) (by decide) (by decide) ho.h) ?_
    refine fstep (fieldR_numF (by decide) (by decide) (by decide) ho.i) ?_
    refine fstep (fieldR_vF hm) ?_
    rfl
  · rintro ⟨d, h, g, i, vk, vx, w, kind, fields, raws, policy⟩ rfl hp hm ho
    have hp : (⟨4, h, 0, i, 0, 0, 0, 0, 0, 0, 0⟩ : OpS) = ⟨4, h, g, i, vk, vx, w, kind, fields, raws, policy⟩ := hp
    cases hp
    show ((fieldR (.zero 4) 104 (Lib.itoa h)).bind fun o1 => (fieldR o1 105 (Lib.itoa i)).bind fun o2 => some o2) = _
    refine fstep (fieldR_numF (by decide) (by decide) (by decide) ho.h) ?_
    refine fstep (fieldR_numF (by decide) (by decide) (by decide) ho.i) ?_
    rfl
  · rintro ⟨d, h, g, i, vk, vx, w, kind, fields, raws, policy⟩ rfl hp hm ho
    have hp : (⟨5, h, 0, i, 0, 0, w, 0, 0, 0, 0⟩ : OpS) = ⟨5, h, g, i, vk, vx, w, kind, fields, raws, policy⟩ := hp
    cases hp
    show ((fieldR (.zero 5) 104 (Lib.itoa h)).bind fun o1 => (fieldR o1 105 (Lib.itoa i)).bind fun o2 => (fieldR o2 119 (hexS w.toNat)).bind fun o3 => some o3) = _
    refine fstep (fieldR_numF (by decide) (by decide) (by decide) ho.h) ?_
    refine fstep (fieldR_numF (by decide) (by decide) (by decide) ho.i) ?_
    refine fstep (fieldR_wF ho.w) ?_
    rfl
  · rintro ⟨d, h, g, i, vk, vx, w, kind, fields, raws, policy⟩ rfl hp hm ho
    have hp : (⟨6, h, g, 0, 0, 0, 0, 0, 0, 0, 0⟩ : OpS) = ⟨6, h, g, i, vk, vx, w, kind, fields, raws, policy⟩ := hp
    cases hp
    show ((fieldR (.zero 6) 104 (Lib.itoa h)).bind fun o1 => (fieldR o1 103 (Lib.itoa g)).bind fun o2 => some o2) = _
    refine fstep (fieldR_numF (by decide) (by decide) (by decide) ho.h) ?_
    refine fstep (fieldR_numF (by decide) (by decide) (by decide) ho.g) ?_
    rfl
  · rintro ⟨d, h, g, i, vk, vx, w, kind, fields, raws, policy⟩ rfl hp hm ho
    have hp : (⟨7, h, 0, 0, 0, 0, 0, 0, 0, 0, 0⟩ : OpS) = ⟨7, h, g, i, vk, vx, w, kind, fields, raws, policy⟩ := hp
    cases hp
    show ((fieldR (.zero 7) 104 (Lib.itoa h)).bind fun o1 => some o1) = _
    refine fstep (fieldR_numF (by decide) (by decide) (by decide) ho.h) ?_
    rfl
  · rintro ⟨d, h, g, i, vk, vx, w, kind, fields, raws, policy⟩ rfl hp hm ho
    have hp : (⟨8, h, 0, 0, 0, 0, 0, 0, 0, 0, 0⟩ : OpS) = ⟨8, h, g, i, vk, vx, w, kind, fields, raws, policy⟩ := hp
    cases hp
    show ((fieldR (.zero 8) 104 (Lib.itoa h)).bind fun o1 => some o1) = _
    refine fstep (fieldR_numF (by decide) (by decide) (by decide) ho.h) ?_
    rfl
  · rintro ⟨d, h, g, i, vk, vx, w, kind, fields, raws, policy⟩ rfl hp hm ho
    have hp : (⟨9, 0, 0, 0, 0, 0, 0, 0, 0, 0, policy⟩ : OpS) = ⟨9, h, g, i, vk, vx, w, kind, fields, raws, policy⟩ := hp
    cases hp
    show ((fieldR (.zero 9) 112 (Lib.itoa policy)).bind fun o1 => some o1) = _
    refine fstep (fieldR_pF ho.policy) ?_
    rfl
  · rintro ⟨d, h, g, i, vk, vx, w, kind, fields, raws, policy⟩ rfl hp hm ho
    have hp : (⟨10, h, 0, 0, 0, 0, 0, 0, 0, 0, 0⟩ : OpS) = ⟨10, h, g, i, vk, vx, w, kind, fields, raws, policy⟩ := hp
    cases hp
    show ((fieldR (.zero 10) 104 (Lib.itoa h)).bind fun o1 => some o1) = _
    refine fstep (fieldR_numF (by decide) (by decide) (by decide) ho.h) ?_
    rfl
theorem showS_chars {o : OpS} (c : Int) : ∀ b ∈ showS o c, b ≠ 32 ∧ b ≠ 10 := by
  have hi : ∀ v : Int, ∀ b ∈ Lib.itoa v, b ≠ 32 ∧ b ≠ 10 := by
    intro v b hb
    have := itoa_chars v b hb
    refine ⟨?_, ?_⟩
    · rintro rfl
      have h32 : (32 : UInt8).toNat = 32 := rfl
      omega
    · rintro rfl
      have h32 : (10 : UInt8).toNat = 10 := rfl
      omega
  unfold showS
  split
  · exact hi _
  · split
    · intro b hb
      obtain ⟨i, _, rfl⟩ := List.mem_map.1 hb
      exact (by decide +kernel : ∀ k : Fin 16, hexDigits.getD k.val 0 ≠ 32 ∧ hexDigits.getD k.val 0 ≠ 10) ⟨_, Nat.mod_lt _ (by omega)⟩
    · split
      · unfold valText
        split
        · split
          · intro b hb
            rcases List.mem_cons.1 hb with rfl | hb
            · decide
            · rcases List.mem_cons.1 hb with rfl | hb
              · decide
              · rcases List.mem_cons.1 hb with rfl | hb
                · decide
                · cases hb
          · split
            · exact hi _
            · intro b hb
              rcases List.mem_cons.1 hb with rfl | hb
              · decide
              · exact hi _ b hb
        · intro b hb
          rcases List.mem_cons.1 hb with rfl | hb
          · decide
          · cases hb
      · exact hi _
theorem name_chars (d : Int) (h1 : 1 ≤ d) (h2 : d ≤ 10) : (∀ b ∈ opName d, b ≠ 32 ∧ b ≠ 10 ∧ b ≠ 35) ∧ opName d ≠ [] :=
  ten (p := fun d => (∀ b ∈ opName d, b ≠ 32 ∧ b ≠ 10 ∧ b ≠ 35) ∧ opName d ≠ []) (by refine ⟨?_, ?_, ?_, ?_, ?_, ?_, ?_, ?_, ?_, ?_⟩ <;> decide) d h1 h2
theorem tailS_words (o : OpS) : ∀ u : Bs, tailS o u = tailW (wordsS o u)
  | [] => rfl
  | c :: u => by
    have := tailS_words o u
    simp only [tailS, this, tailW, wordsS, List.map_cons, List.flatten_cons, List.cons_append]
theorem tailS_ten (o : OpS) : ∀ u : Bs, 10 ∉ tailS o u
  | [] => by simp [tailS]
  | c :: u => by
    have := tailS_ten o u
    simp only [tailS, List.mem_cons, List.mem_append, not_or]
    exact ⟨by decide, fun h => (showS_chars _ _ h).2 rfl, this⟩
theorem lineS_some {o : OpS} {t : Bs} (h : lineS o = some t) : opName o.dO ≠ [] ∧ plainS o = o ∧ mayV o.vk o.vx = true ∧ t = opName o.dO ++ tailS o (opUses o.dO) := by
  unfold lineS at h
  split at h
  · cases h
  · rename_i hc
    simp only [not_or, Bool.not_eq_false] at hc
    obtain ⟨h1, h2, h3⟩ := hc
    cases h
    exact ⟨h1, (eqOp_iff _ _).1 h2, h3, rfl⟩
theorem parse_line {o : OpS} {t : Bs} (ho : o.ok) (h : lineS o = some t) : parseS t = (o, 0) ∧ 10 ∉ t ∧ skipL t = false := by
  obtain ⟨h1, h2, h3, rfl⟩ := lineS_some h
  obtain ⟨d1, d2⟩ := opName_ne _ h1
  obtain ⟨c1, c2⟩ := name_chars _ d1 d2
  have hs : splitS 32 (opName o.dO ++ tailS o (opUses o.dO)) = opName o.dO :: wordsS o (opUses o.dO) := by
    rw [tailS_words]
    refine split_join 32 _ _ (fun h => (c1 _ h).1 rfl) (fun y hy hm => ?_)
    obtain ⟨c, _, rfl⟩ := List.mem_map.1 hy
    exact (showS_chars _ _ hm).1 rfl
  refine ⟨?_, ?_, ?_⟩
  · unfold parseS
    rw [hs]
    simp only [parseW, ofS_name _ d1 d2]
    have hl : (wordsS o (opUses o.dO)).length = (opUses o.dO).length := by simp [wordsS]
    rw [if_neg (by omega), if_neg (by omega), if_neg (by omega), line_fields _ d1 d2 o rfl h2 h3 ho]
  · rw [List.mem_append, not_or]
    exact ⟨fun h => (c1 _ h).2.1 rfl, tailS_ten o _⟩
  · cases hn : opName o.dO with
    | nil => exact absurd hn h1
    | cons b l =>
      have := (c1 b (by rw [hn]; simp)).2.2
      simp [skipL, this]
/-! ### scripts -/
theorem script_read : ∀ (l : List OpS) (x y : Bs) (i : Nat) (out : List OpS), (∀ o ∈ l, o.ok) → scriptS l = some x → out.length + l.length ≤ 2000 →
    readGo i out (splitS 10 (x ++ y)) = readGo (i + l.length) (out ++ l) (splitS 10 y)
  | [], x, y, i, out, _, h, _ => by cases h; simp
  | o :: l, x, y, i, out, hok, h, hlen => by
    obtain ⟨t, ht, h⟩ := bind_some' (show ((lineS o).bind fun t => (scriptS l).map fun r => t ++ 10 :: r) = some x from h)
    cases hr : scriptS l with
    | none => rw [hr] at h; cases h
    | some r =>
      rw [hr] at h
      have h : t ++ 10 :: r = x := by simpa using h
      subst h
      obtain ⟨p1, p2, p3⟩ := parse_line (hok o (by simp)) ht
      simp only [List.length_cons] at hlen
      rw [List.append_assoc, List.cons_append, splitS_sep 10 t _ p2, readGo, if_neg (by simp [p3]), p1, if_neg (by simp), if_neg (by omega)]
      rw [script_read l r y (i + 1) (out ++ [o]) (fun q hq => hok q (by simp [hq])) hr (by simp; omega)]
      simp only [List.append_assoc, List.singleton_append, List.length_cons]
      congr 1; omega
def remS : Bs := [35, 32, 114, 101, 109, 97, 114, 107, 10, 10]
def moreS : Nat → Bs
  | 0 => []
  | k + 1 => moreS k ++ remS
theorem moreS_succ : ∀ k, moreS (k + 1) = remS ++ moreS k
  | 0 => rfl
  | k + 1 => by rw [moreS, moreS_succ k, List.append_assoc]; exact congrArg (remS ++ ·) (moreS_succ k)
theorem moreS_length : ∀ k, (moreS k).length = 10 * k
  | 0 => rfl
  | k + 1 => by rw [moreS, List.length_append, moreS_length k]; show _ + 10 = _; omega
theorem more_read : ∀ (k : Nat) (y : Bs) (i : Nat) (out : List OpS), readGo i out (splitS 10 (moreS k ++ y)) = readGo (i + 2 * k) out (splitS 10 y)
  | 0, y, i, out => rfl
  | k + 1, y, i, out => by
    rw [moreS_succ, List.append_assoc]
    have e : splitS 10 (remS ++ (moreS k ++ y)) = [35, 32, 114, 101, 109, 97, 114, 107] :: [] :: splitS 10 (moreS k ++ y) := by
      show splitS 10 ([35, 32, 114, 101, 109, 97, 114, 107] ++ 10 :: ([] ++ 10 :: (moreS k ++ y))) = _
      rw [splitS_sep 10 _ _ (by decide), splitS_sep 10 _ _ (by decide)]
    rw [e, readGo, if_pos (by decide), readGo, if_pos (by decide), more_read k y]
    congr 1; omega
theorem back_read {l : List OpS} {x : Bs} (k : Nat) (hok : ∀ o ∈ l, o.ok) (hl : l.length ≤ 100) (h : scriptS l = some x) (hlen : (moreS k ++ x ++ moreS k).length ≤ 20000) :
    readTS (moreS k ++ x ++ moreS k) = (l, 0, 0) := by
  unfold readTS
  rw [if_neg (by omega), List.append_assoc, more_read, script_read l x _ _ _ hok h (by simp; omega)]
  have := more_read k [] (0 + 2 * k + l.length) ([] ++ l)
  rw [List.append_nil] at this
  rw [this]
  rfl
end Go.Proofs.TX
