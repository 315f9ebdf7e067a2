/- The operations' rules, fifth part: structs' equality, arrays' elements, iterators over strings, conversions. -/
import Derived.Test.YtfndoonmgilklaaGreatDoorXOps4
set_option linter.unusedSimpArgs false
set_option linter.unusedVariables false
namespace Go.Proofs.TX
open Go
section
variable {P : Program} {dt : Bool} {B : Env P} {ρ : Operand → Value} {s : St} {K : Kp (Value → St → Prop)} {dst : Option Tmp} {ty : TypeId} {pos : String} {af : Array Edge} {g : Option (Nat × Bool)}
def XEqF (P : Program) (dt : Bool) (k : EqK) (neg : Bool) (t : TypeId) (x y : Operand) (p q : List Value) (s : St) (K : Kp (Value → St → Prop)) : Prop := match k with
  | .flat ls => if (fitsL ls p && fitsL ls q) = true then K (.bool (opOf neg (eqL p q))) s else XRaw P dt (boolOp neg) t x y (.agg p.toArray) (.agg q.toArray) s K
  | _ => XRaw P dt (boolOp neg) t x y (.agg p.toArray) (.agg q.toArray) s K
@[go_sem] theorem XEqF_flat (ls : List Leaf) (neg : Bool) (t : TypeId) (x y : Operand) (p q : List Value) : XEqF P dt (.flat ls) neg t x y p q s K =
  if (fitsL ls p && fitsL ls q) = true then K (.bool (opOf neg (eqL p q))) s else XRaw P dt (boolOp neg) t x y (.agg p.toArray) (.agg q.toArray) s K := rfl
theorem XBin_flat (neg : Bool) (t : TypeId) (x y : Operand) (p q : List Value) : XBin P dt (boolOp neg) t x y (.agg p.toArray) (.agg q.toArray) s K = XEqF P dt (eqK P t) neg t x y p q s K := by
  unfold XEqF
  split
  · rename_i ls hk
    split
    · rename_i h
      simp only [Bool.and_eq_true] at h
      obtain ⟨hl, hg, n, ha⟩ := eqK_flat hk
      have hok := eqOK_leaves (dt := dt) _ _ _ hl
      simp only [EqOK, ha] at hok
      refine XBin_gen neg (by cases neg <;> rfl) (fun s K => ?_) (fun s K => ?_)
      · cases neg <;> simp [boolOp, eqGuard, wpS_bind', wpS_program, hg, wpS_pure]
      · exact hok.2 p q h.1 h.2 s K
    · rfl
  · rfl
@[go_sem] theorem XBin_eql_agg (t : TypeId) (x y : Operand) (p q : List Value) : XBin P dt .eql t x y (.agg p.toArray) (.agg q.toArray) s K = XEqF P dt (eqK P t) false t x y p q s K := XBin_flat false _ _ _ _ _
@[go_sem] theorem XBin_neq_agg (t : TypeId) (x y : Operand) (p q : List Value) : XBin P dt .neq t x y (.agg p.toArray) (.agg q.toArray) s K = XEqF P dt (eqK P t) true t x y p q s K := XBin_flat true _ _ _ _ _

/-! ### elements of an array that is a value -/
def ixV (P : Program) (t : TypeId) : Option (Nat × Nat × Option Nat) := match P.underlying t with
  | some (.array n e) => (P.info? e).bind fun i => (aggSize P e).map fun o => (n, i.size, o)
  | _ => none
def XIndexV (P : Program) (dt : Bool) (k : Option (Nat × Nat × Option Nat)) (t : TypeId) (cs : List Value) (j : IntKind) (i : Int) (s : St) (K : Kp (Value → St → Prop)) : Prop := match k with
  | some (n, sz, o) => XIf (0 ≤ i ∧ i < n) ⟨fun _ => XLd (partOf cs (i.toNat * sz) o) ⟨fun v => K v s, .mk⟩, .mk⟩
  | none => wpS P dt (Instr.index t (.agg cs.toArray) (.int j i)) s K.K
@[go_sem] theorem XIndexV_some (n sz : Nat) (o : Option Nat) (t : TypeId) (cs : List Value) (j : IntKind) (i : Int) : XIndexV P dt (some (n, sz, o)) t cs j i s K =
  XIf (0 ≤ i ∧ i < n) ⟨fun _ => XLd (partOf cs (i.toNat * sz) o) ⟨fun v => K v s, .mk⟩, .mk⟩ := rfl
@[go_sem] theorem XIndex_agg (t : TypeId) (cs : List Value) (j : IntKind) (i : Int) : XIndex P dt t (.agg cs.toArray) (.int j i) s K = XIndexV P dt (ixV P t) t cs j i s K := by
  unfold XIndexV
  split
  · rename_i n sz o hk
    unfold ixV at hk
    split at hk
    · rename_i n' e hu
      cases hi : P.info? e with
      | none => simp [hi] at hk
      | some inf =>
        cases ho : aggSize P e with
        | none => simp [hi, ho] at hk
        | some o' =>
          simp only [hi, ho, Option.bind_some, Option.map_some, Option.some.injEq, Prod.mk.injEq] at hk
          obtain ⟨rfl, rfl, rfl⟩ := hk
          simp only [XIndex, Instr.index, asIntOf, wpS_bind', wpS_pure, wpS_underlying _ hu, XIf]
          by_cases h : 0 ≤ i ∧ i < (n' : Int)
          · simp only [h, and_self, if_true, wpS_bind', sizeOf, wpS_typeInfo _ hi, wpS_pure, wpS_part ho, true_and]
          · simp [h, bounds_False]
    · cases hk
  · rfl

def XIxS (P : Program) (dt : Bool) (k : LenK) (t : TypeId) (b : ByteArray) (j : IntKind) (i : Int) (s : St) (K : Kp (Value → St → Prop)) : Prop := match k with
  | .str => XIf (0 ≤ i ∧ i < b.size) ⟨fun _ => K (.int .u8 (b.data.getD i.toNat 0).toNat) s, .mk⟩
  | _ => wpS P dt (Instr.index t (.string b) (.int j i)) s K.K
@[go_sem] theorem XIxS_str (t : TypeId) (b : ByteArray) (j : IntKind) (i : Int) : XIxS P dt .str t b j i s K = XIf (0 ≤ i ∧ i < b.size) ⟨fun _ => K (.int .u8 (b.data.getD i.toNat 0).toNat) s, .mk⟩ := rfl
@[go_sem] theorem XIndex_string (t : TypeId) (b : ByteArray) (j : IntKind) (i : Int) : XIndex P dt t (.string b) (.int j i) s K = XIxS P dt (lenK P t) t b j i s K := by
  unfold XIxS
  split
  · rename_i hk
    unfold lenK at hk
    split at hk <;> first | (cases hk; done) | skip
    rename_i hu
    exact XIndex_str hu b j i
  · rfl

/-! ### iterators over strings -/
def XRange (P : Program) (dt : Bool) (k : LenK) (t : TypeId) (v : Value) (s : St) (K : Kp (Value → St → Prop)) : Prop := match k, v with
  | .str, .string b => K (.pointer (some ⟨s.n, 0, none⟩)) (s.new (.stringIter b 0))
  | _, v => wpS P dt (Instr.range t v) s K.K
@[go_sem] theorem XRange_str (t : TypeId) (b : ByteArray) : XRange P dt .str t (.string b) s K = K (.pointer (some ⟨s.n, 0, none⟩)) (s.new (.stringIter b 0)) := rfl
@[go_sem ↓] theorem XOp_range (t : TypeId) (x : Operand) : XOp P B dt ρ ⟨dst, .range t x, ty, pos, af, g⟩ s K = XRange P dt (lenK P t) t (ρ x) s K := by
  simp only [XOp, notDefer, execOp, true_and, wpS_bind', wpS_pure, next]
  unfold XRange
  split
  · rename_i b hk hv
    unfold lenK at hk
    split at hk <;> first | (cases hk; done) | skip
    rename_i hu
    simp only [hv, Instr.range, wpS_bind', wpS_underlying _ hu, wpS_pure, newObj, wpS_new, wpS_pure']
  · rfl
def XNext (P : Program) (dt : Bool) (o : Option Obj) (r : Nat) (ty : TypeId) (v : Value) (isStr : Bool) (s : St) (K : Kp (Value → St → Prop)) : Prop := match o, isStr with
  | some (.stringIter b pos), true => if pos < b.size then K (.tuple #[.bool true, .int .i64 pos, .int .i32 (Utf8.decode b pos).1]) (s.upd r (.stringIter b (pos + (Utf8.decode b pos).2)))
      else K (.tuple #[.bool false]) s
  | _, _ => wpS P dt (Instr.next v isStr ty) s K.K
@[go_sem] theorem XNext_str (b : ByteArray) (p r : Nat) (ty : TypeId) (v : Value) : XNext P dt (some (.stringIter b p)) r ty v true s K =
  if p < b.size then K (.tuple #[.bool true, .int .i64 p, .int .i32 (Utf8.decode b p).1]) (s.upd r (.stringIter b (p + (Utf8.decode b p).2))) else K (.tuple #[.bool false]) s := rfl
def XNextV (P : Program) (dt : Bool) (ty : TypeId) (v : Value) (isStr : Bool) (s : St) (K : Kp (Value → St → Prop)) : Prop := match v with
  | .pointer (some ⟨r, 0, sp⟩) => XNext P dt (s.h r) r ty (.pointer (some ⟨r, 0, sp⟩)) isStr s K
  | _ => wpS P dt (Instr.next v isStr ty) s K.K
@[go_sem] theorem XNextV_ptr (ty : TypeId) (r : Nat) (sp : Option Nat) (isStr : Bool) : XNextV P dt ty (.pointer (some ⟨r, 0, sp⟩)) isStr s K = XNext P dt (s.h r) r ty (.pointer (some ⟨r, 0, sp⟩)) isStr s K := rfl
@[go_sem ↓] theorem XOp_next (x : Operand) (isStr : Bool) : XOp P B dt ρ ⟨dst, .next x isStr, ty, pos, af, g⟩ s K = XNextV P dt ty (ρ x) isStr s K := by
  simp only [XOp, notDefer, execOp, true_and, wpS_bind', wpS_pure, next]
  unfold XNextV
  split
  · rename_i r sp hv
    rw [hv]
    unfold XNext
    split
    · rename_i b p ho
      have ho' : s.at r = some (.stringIter b p) := by simp [St.at, ho]
      simp only [Instr.next, wpS_bind', getObj, wpS, ho', Option.some.injEq, exists_eq_left', notCells, true_and, wpS_pure]
      by_cases h : p < b.size
      · simp [h, setObj, wpS, wpS_bind', wpS_map, ho, notCells, wpS_pure, goInt, wpS_pure']
      · simp [h, wpS_pure]
    · rfl
  · rfl
end
end Go.Proofs.TX
