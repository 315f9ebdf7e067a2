/- The operations' rules, second part: composite values, slices, builtins. -/
import Derived.Test.YtfndoonmgilklaaGreatDoorXXS
set_option linter.unusedSimpArgs false
set_option linter.unusedVariables false
namespace Go.Proofs.TX
open Go
section
variable {P : Program} {dt : Bool} {B : Env P} {ρ : Operand → Value} {s : St} {K : Kp (Value → St → Prop)} {dst : Option Tmp} {ty : TypeId} {pos : String} {af : Array Edge} {g : Option (Nat × Bool)}

/-! ### parts of values -/
/-- a part of cells: where, and how many (none: one cell, as it is) -/
def partOf (cs : List Value) (off : Nat) : Option Nat → Option Value
  | some n => some (.agg ((cs.drop off).take n).toArray)
  | none => cs[off]?
theorem wpS_part {t : TypeId} {o : Option Nat} (h : aggSize P t = some o) (cs : Array Value) (off : Nat) (K : Value → St → Prop) :
    wpS P dt (part t cs off) s K = XLd (partOf cs.toList off o) ⟨fun v => K v s, .mk⟩ := by
  cases o with
  | some n =>
    simp only [part, wpS_bind', wpS_isAgg_agg h, if_true, wpS_sizeOf_agg h, wpS_pure, partOf, XLd]
    have e : cs.extract off (off + n) = ((cs.toList.drop off).take n).toArray := by
      apply Array.ext'
      simp [Array.toList_extract, List.extract_eq_take_drop]
    rw [e]
  | none =>
    simp only [part, wpS_bind', wpS_isAgg_one h, Bool.false_eq_true, if_false, partOf, Array.getElem?_toList]
    cases cs[off]? <;> simp [XLd, wpS_pure, stuck, wpS]
/-- a field of a value -/
def fieldPart (P : Program) (t : TypeId) (i : Nat) : Option (Nat × Option Nat) := match P.underlying t with
  | some (.struct fs) => (fs[i]?).bind fun f => (aggSize P f.type).map fun o => (f.offset, o)
  | _ => none
def XField (P : Program) (dt : Bool) (o : Option (Nat × Option Nat)) (t : TypeId) (i : Nat) (v : Value) (s : St) (K : Kp (Value → St → Prop)) : Prop := match o, v with
  | some (off, n), .agg cs => XLd (partOf cs.toList off n) ⟨fun v => K v s, .mk⟩
  | _, v => wpS P dt (Instr.field t v i) s K.K
@[go_sem] theorem XField_agg (off : Nat) (n : Option Nat) (t : TypeId) (i : Nat) (cs : List Value) : XField P dt (some (off, n)) t i (.agg cs.toArray) s K = XLd (partOf cs off n) ⟨fun v => K v s, .mk⟩ := rfl
@[go_sem ↓] theorem XOp_field (t : TypeId) (x : Operand) (i : Nat) : XOp P B dt ρ ⟨dst, .field t x i, ty, pos, af, g⟩ s K = XField P dt (fieldPart P t i) t i (ρ x) s K := by
  simp only [XOp, notDefer, execOp, true_and, wpS_bind', wpS_pure, next]
  unfold XField
  split
  · rename_i off n cs ho hv
    unfold fieldPart at ho
    split at ho
    · rename_i fs hu
      cases hf : fs[i]? with
      | none => simp [hf] at ho
      | some f =>
        cases hj : aggSize P f.type with
        | none => simp [hf, hj] at ho
        | some j =>
          simp only [hf, hj, Option.bind_some, Option.map_some, Option.some.injEq, Prod.mk.injEq] at ho
          obtain ⟨rfl, rfl⟩ := ho
          simp only [Instr.field, wpS_bind', wpS_underlying _ hu, hf, hv, asAgg, wpS_pure, wpS_part hj]
    · cases ho
  · rfl
@[go_sem] theorem partOf_none (cs : List Value) (off : Nat) : partOf cs off none = cs[off]? := rfl
@[go_sem] theorem partOf_some (cs : List Value) (off n : Nat) : partOf cs off (some n) = some (.agg ((cs.drop off).take n).toArray) := rfl
attribute [go_sem] List.drop_succ_cons List.drop_zero List.take_succ_cons List.take_zero List.take_nil List.drop_nil

/-! ### building -/
/-- a composite type's zero, and its parts' places -/
def bspec (P : Program) (t : TypeId) : Option (List Value × List (Nat × Nat)) := (zeroOf P t).bind fun z => match P.underlying t with
  | some (.struct fs) => (fs.toList.mapM fun f => (P.info? f.type).map fun i => (f.offset, i.size)).map fun l => (z.toList, l)
  | some (.array n e) => (P.info? e).map fun i => (z.toList, (List.range n).map fun k => (k * i.size, i.size))
  | _ => none
def setAll : List Value → Nat → List Value → List Value
  | cells, _, [] => cells
  | cells, off, v :: vs => setAll (cells.set off v) (off + 1) vs
@[go_sem] theorem setAll_nil (c : List Value) (off : Nat) : setAll c off [] = c := rfl
@[go_sem] theorem setAll_cons (c : List Value) (off : Nat) (v : Value) (vs : List Value) : setAll c off (v :: vs) = setAll (c.set off v) (off + 1) vs := rfl
def fillL (pl : List (Nat × Nat)) : List Value → List (Nat × Value) → Option (List Value)
  | cells, [] => some cells
  | cells, (i, v) :: rest => match pl[i]? with
    | none => none
    | some (off, size) => if v.cells.size ≠ size ∨ off + v.cells.size > cells.length then none else fillL pl (setAll cells off v.cells.toList) rest
@[go_sem] theorem fillL_nil (pl : List (Nat × Nat)) (c : List Value) : fillL pl c [] = some c := rfl
def fillS (pl : List (Nat × Nat)) (p : Option (Nat × Nat)) (cells : List Value) (v : Value) (rest : List (Nat × Value)) : Option (List Value) := match p with
    | none => none
    | some (off, size) => if v.cells.size = size ∧ off + v.cells.size ≤ cells.length then fillL pl (setAll cells off v.cells.toList) rest else none
@[go_sem] theorem fillL_cons (pl : List (Nat × Nat)) (c : List Value) (i : Nat) (v : Value) (rest : List (Nat × Value)) : fillL pl c ((i, v) :: rest) = fillS pl pl[i]? c v rest := by
  simp only [fillL, fillS]
  cases pl[i]? with
  | none => rfl
  | some p =>
    obtain ⟨off, size⟩ := p
    simp only
    by_cases h : v.cells.size = size ∧ off + v.cells.size ≤ c.length
    · rw [if_neg (by omega), if_pos h]
    · rw [if_pos (by omega), if_neg h]
@[go_sem] theorem fillS_some (pl : List (Nat × Nat)) (off size : Nat) (c : List Value) (v : Value) (rest : List (Nat × Value)) :
    fillS pl (some (off, size)) c v rest = if v.cells.size = size ∧ off + v.cells.size ≤ c.length then fillL pl (setAll c off v.cells.toList) rest else none := rfl
theorem fold_setAll (vs : List Value) : ∀ (k off : Nat) (cells : Array Value), (vs.zipIdx k).foldl (fun cs (x : Value × Nat) => cs.setIfInBounds (off + x.2) x.1) cells = (setAll cells.toList (off + k) vs).toArray := by
  induction vs with
  | nil => intros; simp [setAll]
  | cons v vs ih =>
    intro k off cells
    simp only [List.zipIdx_cons, List.foldl_cons, setAll]
    rw [ih]
    simp [Nat.add_assoc]
theorem fill_some {pl : List (Nat × Nat)} {place : Nat → Option (Nat × Nat)} (hp : ∀ (i : Nat) p, pl[i]? = some p → place i = some p) : ∀ (parts : List (Nat × Value)) (cells cs : List Value), fillL pl cells parts = some cs →
    Instr.fill place cells.toArray parts = some cs.toArray := by
  intro parts
  induction parts with
  | nil => intro cells cs h; simp [fillL] at h; subst h; rfl
  | cons p rest ih =>
    intro cells cs h
    obtain ⟨i, v⟩ := p
    simp only [fillL] at h
    cases hq : pl[i]? with
    | none => simp [hq] at h
    | some q =>
      obtain ⟨off, size⟩ := q
      simp only [hq] at h
      split at h
      · cases h
      · rename_i hc
        simp only [Instr.fill, hp _ _ hq, List.size_toArray, bne_iff_ne, ne_eq, Bool.or_eq_true, decide_eq_true_eq]
        rw [if_neg (by simpa using hc), ← ih _ _ h]
        congr 1
        have := fold_setAll v.cells.toList 0 off cells.toArray
        simp only [Nat.add_zero] at this
        rw [← this, ← Array.foldl_toList]
        simp [Array.toList_zipIdx]
theorem setAll_length (vs : List Value) : ∀ (c : List Value) (off : Nat), (setAll c off vs).length = c.length := by
  induction vs with
  | nil => intros; rfl
  | cons v vs ih => intro c off; simp [setAll, ih]
def mapP (ρ : Operand → Value) : List (Nat × Operand) → List (Nat × Value)
  | [] => []
  | (i, x) :: l => (i, ρ x) :: mapP ρ l
@[go_sem] theorem mapP_nil : mapP ρ [] = [] := rfl
@[go_sem] theorem mapP_cons (i : Nat) (x : Operand) (l : List (Nat × Operand)) : mapP ρ ((i, x) :: l) = (i, ρ x) :: mapP ρ l := rfl
theorem mapP_eq (l : List (Nat × Operand)) : mapP ρ l = l.map fun (i, x) => (i, ρ x) := by
  induction l with
  | nil => rfl
  | cons p l ih => simp [mapP, ih]
def XLr (o : Option (List Value)) (K : Kp (List Value → Prop)) (raw : Kp (Unit → Prop)) : Prop := match o with
  | some cs => K cs
  | none => raw ()
@[go_sem ↓] theorem XLr_some (cs : List Value) (K : Kp (List Value → Prop)) (raw : Kp (Unit → Prop)) : XLr (some cs) K raw = K cs := rfl
def XBuild (P : Program) (dt : Bool) (b : Option (List Value × List (Nat × Nat))) (t : TypeId) (parts : List (Nat × Value)) (s : St) (K : Kp (Value → St → Prop)) : Prop := match b with
  | some (z, pl) => XLr (fillL pl z parts) ⟨fun cs => K (.agg cs.toArray) s, .mk⟩ ⟨fun _ => wpS P dt (Instr.build t parts.toArray) s K.K, .mk⟩
  | none => wpS P dt (Instr.build t parts.toArray) s K.K
@[go_sem] theorem XBuild_some (z : List Value) (pl : List (Nat × Nat)) (t : TypeId) (parts : List (Nat × Value)) : XBuild P dt (some (z, pl)) t parts s K =
    XLr (fillL pl z parts) ⟨fun cs => K (.agg cs.toArray) s, .mk⟩ ⟨fun _ => wpS P dt (Instr.build t parts.toArray) s K.K, .mk⟩ := rfl
theorem zero_val {t : TypeId} {zz : Array Value} (h : zeroOf P t = some zz) : ∃ v : Value, v.cells = zz ∧ ∀ (s : St) (K : Value → St → Prop), wpS P dt (zeroValue t) s K = K v s := by
  unfold zeroOf at h
  cases hi : P.info? t with
  | none => simp [hi] at h
  | some i =>
    simp only [hi, Option.bind_some, Option.map_eq_some_iff] at h
    obtain ⟨v, hv, rfl⟩ := h
    exact ⟨v, rfl, fun s K => by simp only [zeroValue, wpS_bind', wpS_typeInfo _ hi, hv, wpS_pure]⟩
theorem wpS_mapM_places (l : List Field) : ∀ (r : List (Nat × Nat)) (K : List (Nat × Nat) → St → Prop), (l.mapM fun f => (P.info? f.type).map fun i => (f.offset, i.size)) = some r →
    wpS P dt (l.mapM fun f => do pure (f.offset, ← sizeOf f.type)) s K = K r s := by
  induction l with
  | nil => intro r K h; simp at h; subst h; rfl
  | cons f l ih =>
    intro r K h
    rw [List.mapM_cons] at h ⊢
    cases hi : P.info? f.type with
    | none => simp [hi] at h
    | some i =>
      simp only [hi, Option.map_some, Option.bind_eq_bind, Option.bind_some] at h
      cases hr : (l.mapM fun f => (P.info? f.type).map fun i => (f.offset, i.size)) with
      | none => simp [hr] at h
      | some r' =>
        simp [hr] at h
        subst h
        simp only [wpS_bind', sizeOf, wpS_typeInfo _ hi, wpS_pure]
        have := ih r' (fun r s => K ((f.offset, i.size) :: r) s) hr
        simp only [sizeOf, wpS_bind', wpS_pure] at this
        exact this
@[go_sem ↓] theorem XOp_build (t : TypeId) (parts : List (Nat × Operand)) : XOp P B dt ρ ⟨dst, .build t parts.toArray, ty, pos, af, g⟩ s K = XBuild P dt (bspec P t) t (mapP ρ parts) s K := by
  simp only [XOp, notDefer, execOp, true_and, wpS_bind', wpS_pure, next]
  have hm : (parts.toArray.map fun (i, x) => (i, ρ x)) = (mapP ρ parts).toArray := by rw [mapP_eq]; simp
  rw [hm]
  cases hb : bspec P t with
  | none => rfl
  | some p =>
    obtain ⟨z, pl⟩ := p
    simp only [XBuild, XLr]
    cases hfl : fillL pl z (mapP ρ parts) with
    | none => rfl
    | some cs =>
      simp only
      unfold bspec at hb
      cases hz : zeroOf P t with
      | none => simp [hz] at hb
      | some zz =>
        simp only [hz, Option.bind_some] at hb
        obtain ⟨v, hv, hK⟩ := zero_val (dt := dt) hz
        simp only [Instr.build, wpS_bind', wpS_map, hK, hv]
        split at hb
        · rename_i fs hu
          simp only [Option.map_eq_some_iff, Prod.mk.injEq] at hb
          obtain ⟨l, hl, rfl, rfl⟩ := hb
          simp only [wpS_underlying _ hu, wpS_bind', Array.mapM_eq_mapM_toList, wpS_map]
          rw [wpS_mapM_places _ _ _ hl]
          have hfe := fill_some (place := fun i => (l.toArray)[i]?) (pl := l) (by intro i p hp; simpa using hp) _ _ _ hfl
          simp only [Array.toArray_toList] at hfe
          simp only [hfe, wpS_pure]
        · rename_i n e hu
          simp only [Option.map_eq_some_iff, Prod.mk.injEq] at hb
          obtain ⟨inf, hi, rfl, rfl⟩ := hb
          simp only [wpS_underlying _ hu, wpS_bind', sizeOf, wpS_typeInfo _ hi, wpS_pure]
          have hfe := fill_some (place := fun i => some (i * inf.size, inf.size)) (by
            intro i p hp
            simp only [List.getElem?_map, List.getElem?_range, Option.map_eq_some_iff] at hp
            obtain ⟨k, hk, rfl⟩ := hp
            by_cases hik : i < n
            · rw [List.getElem?_range hik] at hk; cases hk; rfl
            · rw [List.getElem?_eq_none (by simpa using hik)] at hk; cases hk) _ _ _ hfl
          simp only [Array.toArray_toList] at hfe
          simp only [hfe, wpS_pure]
        · cases hb
/-- a row's element type, its zero cells, and how many -/
def sspec (P : Program) (t : TypeId) : Option (TypeId × List Value × Nat) := match P.underlying t with
  | some (.slice e) => (P.info? e).bind fun i => (zeroOf P e).bind fun z => if z.size = i.size ∧ i.size ≠ 0 then some (e, z.toList, i.size) else none
  | _ => none
theorem sspec_elem {t e : TypeId} {z : List Value} {k : Nat} (h : sspec P t = some (e, z, k)) : P.underlying t = some (.slice e) ∧ ∃ i, P.info? e = some i ∧ i.size = k ∧ zeroOf P e = some z.toArray ∧ z.length = k ∧ k ≠ 0 := by
  unfold sspec at h
  split at h
  · rename_i e' hu
    cases hi : P.info? e' with
    | none => simp [hi] at h
    | some i =>
      cases hz : zeroOf P e' with
      | none => simp [hi, hz] at h
      | some zz =>
        simp only [hi, hz, Option.bind_some] at h
        split at h
        · rename_i hc
          simp only [Option.some.injEq, Prod.mk.injEq] at h
          obtain ⟨rfl, rfl, rfl⟩ := h
          exact ⟨hu, i, hi, rfl, by simpa using hz, by simpa using hc.1, hc.2⟩
        · cases h
  · cases h
def rep (z : List Value) : Nat → List Value
  | 0 => []
  | n + 1 => z ++ rep z n
@[go_sem] theorem rep_zero (z : List Value) : rep z 0 = [] := rfl
@[go_sem] theorem rep_succ (z : List Value) (n : Nat) : rep z (n + 1) = z ++ rep z n := rfl
theorem rep_length (z : List Value) (n : Nat) : (rep z n).length = n * z.length := by
  induction n with
  | zero => simp [rep]
  | succ n ih => simp [rep, ih, Nat.add_mul, Nat.add_comm]
theorem rep_get (z : List Value) (hz : z.length ≠ 0) (n : Nat) : ∀ j, j < n * z.length → (rep z n)[j]? = z[j % z.length]? := by
  induction n with
  | zero => intro j h; simp at h
  | succ n ih =>
    intro j h
    simp only [rep]
    by_cases hj : j < z.length
    · rw [List.getElem?_append_left hj, Nat.mod_eq_of_lt hj]
    · rw [List.getElem?_append_right (by omega), ih _ (by rw [Nat.add_mul] at h; omega)]
      rw [Nat.mod_eq_sub_mod (by omega : j ≥ z.length)]
theorem tile_eq (z : List Value) (hz : z.length ≠ 0) (n : Nat) : ((Array.range (n * z.length)).map fun j => z.toArray[j % z.toArray.size]!) = (rep z n).toArray := by
  apply Array.ext_getElem?
  intro j
  rw [Array.getElem?_map]
  by_cases hj : j < n * z.length
  · rw [Array.getElem?_range, if_pos hj]
    have hm : j % z.length < z.length := Nat.mod_lt _ (by omega)
    simp only [Option.map_some, List.getElem?_toArray, rep_get z hz n j hj, List.size_toArray]
    rw [List.getElem?_eq_getElem hm]
    simp [hm]
  · rw [Array.getElem?_eq_none (by simpa using hj)]
    rw [Array.getElem?_eq_none (by simp [rep_length]; omega)]
    rfl
def XBuildSlice (P : Program) (dt : Bool) (b : Option (TypeId × List Value × Nat)) (t : TypeId) (n : Nat) (parts : List (Nat × Value)) (s : St) (K : Kp (Value → St → Prop)) : Prop := match b with
  | some (e, z, k) => if n * k ≤ 2 ^ 24 then XLr (fillL ((List.range n).map fun i => (i * k, k)) (rep z n) parts) ⟨fun cs => K (.slice (some ⟨s.n, 0, none⟩) n n) (s.new (.cells cs.toArray e)), .mk⟩ ⟨fun _ => wpS P dt (Instr.buildSlice t n parts.toArray) s K.K, .mk⟩
      else wpS P dt (Instr.buildSlice t n parts.toArray) s K.K
  | none => wpS P dt (Instr.buildSlice t n parts.toArray) s K.K
/-- the places in a row of n -/
def places (k : Nat) : Nat → Nat → List (Nat × Nat)
  | _, 0 => []
  | i, n + 1 => (i * k, k) :: places k (i + 1) n
@[go_sem] theorem places_zero (k i : Nat) : places k i 0 = [] := rfl
@[go_sem] theorem places_succ (k i n : Nat) : places k i (n + 1) = (i * k, k) :: places k (i + 1) n := rfl
theorem places_eq (k n : Nat) : ∀ i, places k i n = (List.range' i n).map fun i => (i * k, k) := by
  induction n with
  | zero => intro i; rfl
  | succ n ih => intro i; simp [places, ih, List.range'_succ]
@[go_sem] theorem XBuildSlice_some (e : TypeId) (z : List Value) (k : Nat) (t : TypeId) (n : Nat) (parts : List (Nat × Value)) : XBuildSlice P dt (some (e, z, k)) t n parts s K =
    if n * k ≤ 16777216 then XLr (fillL (places k 0 n) (rep z n) parts) ⟨fun cs => K (.slice (some ⟨s.n, 0, none⟩) n n) (s.new (.cells cs.toArray e)), .mk⟩ ⟨fun _ => wpS P dt (Instr.buildSlice t n parts.toArray) s K.K, .mk⟩
      else wpS P dt (Instr.buildSlice t n parts.toArray) s K.K := by
  simp only [XBuildSlice, places_eq, List.range_eq_range']
@[go_sem ↓] theorem XOp_buildSlice (t : TypeId) (n : Nat) (parts : List (Nat × Operand)) : XOp P B dt ρ ⟨dst, .buildSlice t n parts.toArray, ty, pos, af, g⟩ s K = XBuildSlice P dt (sspec P t) t n (mapP ρ parts) s K := by
  simp only [XOp, notDefer, execOp, true_and, wpS_bind', wpS_pure, next]
  have hm : (parts.toArray.map fun (i, x) => (i, ρ x)) = (mapP ρ parts).toArray := by rw [mapP_eq]; simp
  rw [hm]
  cases hb : sspec P t with
  | none => rfl
  | some p =>
    obtain ⟨e, z, k⟩ := p
    simp only [XBuildSlice, XLr]
    split
    · rename_i hle
      cases hfl : fillL ((List.range n).map fun i => (i * k, k)) (rep z n) (mapP ρ parts) with
      | none => rfl
      | some cs =>
        simp only
        obtain ⟨hu, i, hi, hs, hz, hzl, hk⟩ := sspec_elem hb
        obtain ⟨v, hv, hK⟩ := zero_val (dt := dt) hz
        have hgt : ¬ (n * i.size > 2 ^ 24) := by rw [hs]; omega
        have hfe := fill_some (place := fun j => some (j * k, k)) (by
            intro i p hp
            simp only [List.getElem?_map, Option.map_eq_some_iff] at hp
            obtain ⟨k', hk', rfl⟩ := hp
            by_cases hik : i < n
            · rw [List.getElem?_range hik] at hk'; cases hk'; rfl
            · rw [List.getElem?_eq_none (by simpa using hik)] at hk'; cases hk') _ _ _ hfl
        have htile : ((Array.range (n * i.size)).map fun j => (if n * i.size = 0 then #[] else z.toArray)[j % (if n * i.size = 0 then #[] else z.toArray : Array Value).size]!) = (rep z n).toArray := by
          by_cases hn : n = 0
          · subst hn; simp [rep]
          · rw [if_neg (by rw [hs]; exact Nat.mul_ne_zero hn hk), hs, ← hzl]; exact tile_eq z (by omega) n
        simp only [Instr.buildSlice, wpS_bind', wpS_underlying _ hu, sizeOf, wpS_typeInfo _ hi, wpS_pure, wpS_ite, if_neg hgt, hK]
        by_cases hn : n * i.size = 0
        · simp only [hn, if_true] at htile ⊢
          rw [htile, hs, hfe]
          simp only [newRow, newObj, wpS_bind', wpS_map, wpS_new, wpS_pure', wpS_pure]
        · simp only [hn, if_false, hv] at htile ⊢
          rw [htile, hs, hfe]
          simp only [newRow, newObj, wpS_bind', wpS_map, wpS_new, wpS_pure', wpS_pure]
    · rfl
end
end Go.Proofs.TX
/- The operations' rules, third part: slices, lengths, builtins, equality. -/
set_option linter.unusedSimpArgs false
set_option linter.unusedVariables false
namespace Go.Proofs.TX
open Go
section
variable {P : Program} {dt : Bool} {B : Env P} {ρ : Operand → Value} {s : St} {K : Kp (Value → St → Prop)} {dst : Option Tmp} {ty : TypeId} {pos : String} {af : Array Edge} {g : Option (Nat × Bool)}
theorem bounds_FalseN (k : IntKind) (x y : Int) (c : BoundsCode) (K : Nat → St → Prop) : wpS P dt (boundsPanic (α := Nat) k x y c) s K = False := by
  unfold boundsPanic
  split
  · simp [wpS_bind', choose, wpS, runtimePanic, program, goPanic, bind, Sem.bind, Question.forced, Functor.map, pure]
  · simp only [wpS_bind', wpS_pure]; simp [runtimePanic, program, goPanic, wpS, bind, Sem.bind]
/-! ### slicing -/
def XBd (v : Value) (y : Nat) (K : Kp (Nat → Prop)) : Prop := match v with | .int _ i => XIf (0 ≤ i ∧ i ≤ y) ⟨fun _ => K i.toNat, .mk⟩ | _ => False
@[go_sem] theorem XBd_int (k : IntKind) (i : Int) (y : Nat) (K : Kp (Nat → Prop)) : XBd (.int k i) y K = XIf (0 ≤ i ∧ i ≤ y) ⟨fun _ => K i.toNat, .mk⟩ := rfl
theorem wpS_sliceBound (v : Value) (y : Nat) (c : BoundsCode) (K : Nat → St → Prop) : wpS P dt (Instr.sliceBound v y c) s K = ((∃ a, v = .pointer (some a)) ∧ False ∨ XBd v y ⟨fun n => K n s, .mk⟩) := by
  cases v with
  | int k i =>
    simp only [Instr.sliceBound, asIntOf, wpS_bind', wpS_pure, wpS_ite, XBd, XIf]
    by_cases h : 0 ≤ i ∧ i ≤ (y : Int)
    · simp [h, wpS_pure]
    · simp [h, bounds_FalseN]
  | pointer a => cases a <;> simp [Instr.sliceBound, asIntOf, stuck, unsupported, wpS, XBd, bind, Sem.bind]
  | _ => simp [Instr.sliceBound, asIntOf, stuck, unsupported, wpS, XBd, bind, Sem.bind]
theorem XBd_iff (v : Value) (y : Nat) (K : Kp (Nat → Prop)) : XBd v y K = ∃ k i, v = .int k i ∧ 0 ≤ i ∧ i ≤ (y : Int) ∧ K i.toNat := by
  cases v <;> simp [XBd, XIf]
  exact ⟨fun ⟨⟨a, b⟩, c⟩ => ⟨_, _, ⟨rfl, rfl⟩, a, b, c⟩, fun ⟨k, i, ⟨h1, h2⟩, a, b, c⟩ => by subst h1; subst h2; exact ⟨⟨a, b⟩, c⟩⟩
def XMax (v : Option Value) (cap : Nat) (K : Kp (Nat → Prop)) : Prop := match v with | some v => XBd v cap K | none => K cap
@[go_sem ↓] theorem XMax_none (cap : Nat) (K : Kp (Nat → Prop)) : XMax none cap K = K cap := rfl
@[go_sem] theorem XMax_some (v : Value) (cap : Nat) (K : Kp (Nat → Prop)) : XMax (some v) cap K = XBd v cap K := rfl
def XHi (v mx : Option Value) (len m : Nat) (K : Kp (Nat → Prop)) : Prop := match v, mx with | some v, _ => XBd v m K | none, none => K len | none, some _ => False
@[go_sem ↓] theorem XHi_none (len m : Nat) (K : Kp (Nat → Prop)) : XHi none none len m K = K len := rfl
@[go_sem] theorem XHi_some (v : Value) (mx : Option Value) (len m : Nat) (K : Kp (Nat → Prop)) : XHi (some v) mx len m K = XBd v m K := rfl
def XLo (v : Option Value) (h : Nat) (K : Kp (Nat → Prop)) : Prop := match v with | some v => XBd v h K | none => K 0
@[go_sem ↓] theorem XLo_none (cap : Nat) (K : Kp (Nat → Prop)) : XLo none cap K = K 0 := rfl
@[go_sem] theorem XLo_some (v : Value) (cap : Nat) (K : Kp (Nat → Prop)) : XLo (some v) cap K = XBd v cap K := rfl
def XBds (len cap : Nat) (lo hi mx : Option Value) (K : Kp (Nat → Nat → Nat → Prop)) : Prop :=
  XMax mx cap ⟨fun m => XHi hi mx len m ⟨fun h => XLo lo h ⟨fun l => K l h m, .mk⟩, .mk⟩, .mk⟩
@[go_sem ↓] theorem XBds_eq (len cap : Nat) (lo hi mx : Option Value) (K : Kp (Nat → Nat → Nat → Prop)) : XBds len cap lo hi mx K =
  XMax mx cap ⟨fun m => XHi hi mx len m ⟨fun h => XLo lo h ⟨fun l => K l h m, .mk⟩, .mk⟩, .mk⟩ := rfl
theorem wpS_sliceBounds (isSlice : Bool) (len cap : Nat) (lo hi mx : Option Value) (K : Nat × Nat × Nat → St → Prop) :
    wpS P dt (Instr.sliceBounds isSlice len cap lo hi mx) s K = XBds len cap lo hi mx ⟨fun l h m => K (l, h, m) s, .mk⟩ := by
  cases mx <;> cases hi <;> cases lo <;>
    simp only [Instr.sliceBounds, wpS_bind', wpS_map, wpS_pure, XBds, XMax, XHi, XLo, wpS_sliceBound, and_false, false_or, XBd_iff, stuck, wpS, exists_false]
theorem XBds_congr {len cap : Nat} {lo hi mx : Option Value} {K K' : Nat → Nat → Nat → Prop} (h : ∀ l h m, K l h m = K' l h m) : XBds len cap lo hi mx ⟨K, .mk⟩ = XBds len cap lo hi mx ⟨K', .mk⟩ := by
  have : K = K' := by funext l h' m; exact h l h' m
  subst this; rfl
inductive SlK where
  | slice (size : Nat)
  | array (len size : Nat)
  | str
  | other
def slK (P : Program) (t : TypeId) : SlK := match P.underlying t with
  | some (.slice e) => match P.info? e with | some i => .slice i.size | none => .other
  | some (.array n e) => match P.info? e with | some i => .array n i.size | none => .other
  | some .string => .str
  | _ => .other
def slAddr (a : Option Addr) (l m sz : Nat) : Option Addr := if m = l then a else a.map (·.add (l * sz))
def XSlice (P : Program) (dt : Bool) (k : SlK) (t : TypeId) (v : Value) (lo hi mx : Option Value) (s : St) (K : Kp (Value → St → Prop)) : Prop := match k, v with
  | .slice sz, .slice a len cap => XBds len cap lo hi mx ⟨fun l h m => K (.slice (slAddr a l m sz) (h - l) (m - l)) s, .mk⟩
  | .array n sz, .pointer (some a) => XBds n n lo hi mx ⟨fun l h m => K (.slice (slAddr (some a) l m sz) (h - l) (m - l)) s, .mk⟩
  | .str, .string b => if mx = none then XBds b.size b.size lo hi none ⟨fun l h _ => K (.string (b.extract l h)) s, .mk⟩ else wpS P dt (Instr.sliceAt t v lo hi mx) s K.K
  | _, v => wpS P dt (Instr.sliceAt t v lo hi mx) s K.K
@[go_sem] theorem XSlice_slice (sz : Nat) (t : TypeId) (a : Option Addr) (len cap : Nat) (lo hi mx : Option Value) : XSlice P dt (.slice sz) t (.slice a len cap) lo hi mx s K =
  XBds len cap lo hi mx ⟨fun l h m => K (.slice (slAddr a l m sz) (h - l) (m - l)) s, .mk⟩ := rfl
@[go_sem] theorem XSlice_array (n sz : Nat) (t : TypeId) (a : Addr) (lo hi mx : Option Value) : XSlice P dt (.array n sz) t (.pointer (some a)) lo hi mx s K =
  XBds n n lo hi mx ⟨fun l h m => K (.slice (slAddr (some a) l m sz) (h - l) (m - l)) s, .mk⟩ := rfl
@[go_sem] theorem XSlice_str (t : TypeId) (b : ByteArray) (lo hi : Option Value) : XSlice P dt .str t (.string b) lo hi none s K =
  XBds b.size b.size lo hi none ⟨fun l h _ => K (.string (b.extract l h)) s, .mk⟩ := by simp [XSlice]
@[go_sem ↓] theorem XOp_slice (t : TypeId) (x : Operand) (lo hi mx : Option Operand) : XOp P B dt ρ ⟨dst, .slice t x lo hi mx, ty, pos, af, g⟩ s K = XSlice P dt (slK P t) t (ρ x) (lo.map ρ) (hi.map ρ) (mx.map ρ) s K := by
  simp only [XOp, notDefer, execOp, true_and, wpS_bind', wpS_pure, next]
  unfold XSlice
  split
  · rename_i sz a len cap hk hv
    unfold slK at hk
    split at hk
    · rename_i e hu
      split at hk
      · rename_i i hi'
        cases hk
        simp only [hv, Instr.sliceAt, wpS_bind', wpS_underlying _ hu, Instr.slice, wpS_sliceBounds, sizeOf, wpS_typeInfo _ hi', wpS_pure, slAddr]
      · cases hk
    · split at hk <;> cases hk
    · cases hk
    · cases hk
  · rename_i n sz a hk hv
    unfold slK at hk
    split at hk
    · split at hk <;> cases hk
    · rename_i n' e hu
      split at hk
      · rename_i i hi'
        cases hk
        simp only [hv, Instr.sliceAt, wpS_bind', wpS_underlying _ hu, Instr.sureAddr, wpS_pure, wpS_sliceBounds, sizeOf, wpS_typeInfo _ hi', slAddr]
        have e : ∀ (l m : Nat), (some (if m = l then a else a.add (l * i.size))) = (if m = l then some a else Option.map (fun x => x.add (l * i.size)) (some a)) := by intro l m; split <;> rfl
        exact XBds_congr fun l h m => by rw [e]
      · cases hk
    · cases hk
    · cases hk
  · rename_i b hk hv
    split
    · rename_i hmx
      unfold slK at hk
      split at hk
      · split at hk <;> cases hk
      · split at hk <;> cases hk
      · rename_i hu
        simp only [hv, hmx, Instr.sliceAt, wpS_bind', wpS_underlying _ hu, Instr.slice, Option.isSome_none, Bool.false_eq_true, if_false, wpS_ite, wpS_sliceBounds, wpS_pure]
      · cases hk
    · rfl
  · rfl
attribute [go_sem] Option.map_none Option.map_some

/-! ### strings' bytes -/
def XIndex (P : Program) (dt : Bool) (t : TypeId) (v i : Value) (s : St) (K : Kp (Value → St → Prop)) : Prop := wpS P dt (Instr.index t v i) s K.K
@[go_sem ↓] theorem XOp_index (t : TypeId) (x i : Operand) : XOp P B dt ρ ⟨dst, .index t x i, ty, pos, af, g⟩ s K = XIndex P dt t (ρ x) (ρ i) s K := by
  simp only [XOp, notDefer, execOp, true_and, wpS_bind', wpS_pure, next, XIndex]
theorem XIndex_str {t : TypeId} (hu : P.underlying t = some .string) (b : ByteArray) (k : IntKind) (i : Int) : XIndex P dt t (.string b) (.int k i) s K = XIf (0 ≤ i ∧ i < b.size) ⟨fun _ => K (.int .u8 (b.data.getD i.toNat 0).toNat) s, .mk⟩ := by
  simp only [XIndex, Instr.index, asIntOf, wpS_bind', wpS_pure, wpS_underlying _ hu, XIf]
  by_cases h0 : 0 ≤ i
  · simp only [h0, if_true, true_and]
    by_cases h1 : i.toNat < b.size
    · have h2 : i < (b.size : Int) := by omega
      have : b[i.toNat]? = some b[i.toNat] := by simp [h1]
      simp only [this, wpS_pure, h2, true_and]
      have e : b.data.getD i.toNat 0 = b[i.toNat] := by
        show b.data.getD i.toNat 0 = b.data[i.toNat]
        have h3 : i.toNat < b.data.size := h1
        rw [Array.getD_eq_getD_getElem?, Array.getElem?_eq_getElem h3]; rfl
      rw [e]
    · have h2 : ¬ i < (b.size : Int) := by omega
      have : b[i.toNat]? = none := by simp; omega
      simp [this, h2, bounds_False]
  · simp [h0, bounds_False]

/-! ### builtins -/
def XBuiltin (P : Program) (B : Env P) (dt : Bool) (b : Builtin) (tys : Array TypeId) (ty : TypeId) (consts : List Bool) (vs : List Value) (s : St) (K : Kp (Value → St → Prop)) : Prop := wpS P dt (builtin b tys ty consts.toArray vs.toArray) s (next P B dt K.K)
def isConst : Operand → Bool | .const _ => true | _ => false
@[go_sem ↓] theorem XOp_builtin (b : Builtin) (args : List Operand) (tys : Array TypeId) : XOp P B dt ρ ⟨dst, .call ⟨.builtin b, args.toArray, tys⟩, ty, pos, af, g⟩ s K = XBuiltin P B dt b tys ty (args.map isConst) (args.map ρ) s K := by
  simp only [XOp, notDefer, execOp, true_and, wpS_bind', resolve, wpS_pure, List.map_toArray, invoke, XBuiltin]
  rfl
inductive LenK where
  | str
  | array (n : Nat)
  | slice
  | other
def lenK (P : Program) (t : TypeId) : LenK := match P.underlying t with
  | some .string => .str
  | some (.array n _) => .array n
  | some (.slice _) => .slice
  | _ => .other
def XLen (P : Program) (dt : Bool) (k : LenK) (t : TypeId) (v : Value) (s : St) (K : Kp (Value → St → Prop)) : Prop := match k, v with
  | .str, .string b => K (.int .i64 b.size) s
  | .array n, _ => K (.int .i64 n) s
  | .slice, .slice _ n _ => K (.int .i64 n) s
  | _, v => wpS P dt (Builtin.len_ #[t] 0 #[v]) s K.K
@[go_sem] theorem XLen_str (t : TypeId) (b : ByteArray) : XLen P dt .str t (.string b) s K = K (.int .i64 b.size) s := rfl
@[go_sem] theorem XLen_array (n : Nat) (t : TypeId) (v : Value) : XLen P dt (.array n) t v s K = K (.int .i64 n) s := rfl
@[go_sem] theorem XLen_slice (t : TypeId) (a : Option Addr) (n c : Nat) : XLen P dt .slice t (.slice a n c) s K = K (.int .i64 n) s := rfl
@[go_sem] theorem XBuiltin_len (t : TypeId) (c : List Bool) (v : Value) : XBuiltin P B dt .len #[t] ty c [v] s K = XLen P dt (lenK P t) t v s K := by
  simp only [XBuiltin, builtin, wpS_bind', wpS_pure, next]
  unfold XLen
  split
  · rename_i b hk
    unfold lenK at hk
    split at hk <;> first | (cases hk; done) | (cases hk; rename_i hu; simp [Builtin.len_, wpS_bind', wpS_underlying _ hu, wpS_pure, goInt])
  · rename_i n v' hk
    unfold lenK at hk
    split at hk <;> first | (cases hk; done) | (cases hk; rename_i hu; simp [Builtin.len_, wpS_bind', wpS_underlying _ hu, wpS_pure, goInt])
  · rename_i a n c hk
    unfold lenK at hk
    split at hk <;> first | (cases hk; done) | (cases hk; rename_i hu; simp [Builtin.len_, wpS_bind', wpS_underlying _ hu, wpS_pure, goInt])
  · rfl
@[go_sem] theorem XBuiltin_max (tys : Array TypeId) (c : List Bool) (k : IntKind) (a b : Int) : XBuiltin P B dt .max tys ty c [.int k a, .int k b] s K = K (.int k (if b > a then b else a)) s := by
  simp [XBuiltin, builtin, wpS_bind', wpS_pure, next, Builtin.max_, Builtin.max2]
@[go_sem] theorem XBuiltin_min (tys : Array TypeId) (c : List Bool) (k : IntKind) (a b : Int) : XBuiltin P B dt .min tys ty c [.int k a, .int k b] s K = K (.int k (if b < a then b else a)) s := by
  simp [XBuiltin, builtin, wpS_bind', wpS_pure, next, Builtin.min_, Builtin.min2]
end
end Go.Proofs.TX
