/- The operations' rules, as equations for simp. -/
import Derived.Test.YtfndoonmgilklaaGreatDoorXXCode
import Derived.Attr
set_option linter.unusedSimpArgs false
set_option linter.unusedVariables false
namespace Go.Proofs.TX
open Go

section
variable {P : Program} {dt : Bool} {B : Env P} {ρ : Operand → Value} {s : St} {K : Value → St → Prop} {dst : Option Tmp} {ty : TypeId} {pos : String} {af : Array Edge} {g : Option (Nat × Bool)}

@[go_sem] theorem wpS_pure {α : Type} (a : α) (K : α → St → Prop) : wpS P dt (pure a) s K = K a s := rfl
@[go_sem] theorem wpS_pure' {α : Type} (a : α) (K : α → St → Prop) : wpS P dt (Sem.pure a) s K = K a s := rfl
@[go_sem] theorem wpS_bind' {α β : Type} (m : Sem α) (f : α → Sem β) (K : β → St → Prop) : wpS P dt (m >>= f) s K = wpS P dt m s (fun a s => wpS P dt (f a) s K) := wpS_bind m f s K
@[go_sem] theorem wpS_map {α β : Type} (m : Sem α) (f : α → β) (K : β → St → Prop) : wpS P dt (f <$> m) s K = wpS P dt m s (fun a s => K (f a) s) := wpS_bind m _ s K
@[go_sem] theorem wpS_new (o : Obj) (k : Nat → Sem Nat) (K : Nat → St → Prop) : wpS P dt (Sem.new o k) s K = wpS P dt (k s.n) (s.new o) K := rfl
@[go_sem] theorem wpS_ite {α : Type} (c : Prop) [Decidable c] (x y : Sem α) (K : α → St → Prop) : wpS P dt (if c then x else y) s K = if c then wpS P dt x s K else wpS P dt y s K := by split <;> rfl
@[go_sem] theorem wpS_program (K : Program → St → Prop) : wpS P dt program s K = K P s := rfl
theorem wpS_underlying {t : TypeId} {d : TypeDesc} (K : TypeDesc → St → Prop) (h : P.underlying t = some d) : wpS P dt (underlying t) s K = K d s := by
  simp only [underlying, wpS_bind', wpS_program, h, wpS_pure]
theorem wpS_typeInfo {t : TypeId} {d : TypeInfo} (K : TypeInfo → St → Prop) (h : P.info? t = some d) : wpS P dt (typeInfo t) s K = K d s := by
  simp only [typeInfo, wpS_bind', wpS_program, h, wpS_pure]
theorem wpS_iff {α : Type} (m : Sem α) {K K' : α → St → Prop} (s : St) (h : ∀ a s, K a s ↔ K' a s) : wpS P dt m s K ↔ wpS P dt m s K' := ⟨wpS_mono m s _ _ fun a s => (h a s).1, wpS_mono m s _ _ fun a s => (h a s).2⟩
@[go_sem] theorem wpS_goInt (K : Value → St → Prop) (n : Int) : wpS P dt (pure (goInt n)) s K = K (.int .i64 n) s := rfl

instance {F : Type} : CoeFun (Kp F) (fun _ => F) := ⟨Kp.K⟩
end
section
variable {P : Program} {dt : Bool} {B : Env P} {ρ : Operand → Value} {s : St} {K : Kp (Value → St → Prop)} {dst : Option Tmp} {ty : TypeId} {pos : String} {af : Array Edge} {g : Option (Nat × Bool)}

/-! ### moves -/
def XLd (o : Option Value) (K : Kp (Value → Prop)) : Prop := match o with | some v => K v | none => False
@[go_sem ↓] theorem XLd_some (v : Value) (K : Kp (Value → Prop)) : XLd (some v) K = K v := rfl
/-- a test that must hold -/
def XIf (p : Prop) (K : Kp (Unit → Prop)) : Prop := p ∧ K ()
@[go_sem ↓] theorem XIf_True (K : Kp (Unit → Prop)) : XIf True K = K () := by simp [XIf]
/-- the value is reckoned first -/
def XVal (v : Value) (K : Kp (Value → Prop)) : Prop := K v
@[go_sem] theorem XVal_eq (v : Value) (K : Kp (Value → Prop)) : XVal v K = K v := rfl
@[go_sem ↓] theorem XOp_move (x : Operand) : XOp P B dt ρ ⟨dst, .move x, ty, pos, af, g⟩ s K = XVal (ρ x) ⟨fun v => K v s, .mk⟩ := by simp [XVal, XOp, notDefer, execOp, wpS, pure, next]
@[go_sem ↓] theorem XOp_assign (x : Operand) : XOp P B dt ρ ⟨dst, .assign x, ty, pos, af, g⟩ s K = XVal (ρ x) ⟨fun v => K v s, .mk⟩ := by simp [XVal, XOp, notDefer, execOp, wpS, pure, next]
def XPick (c a b : Value) (s : St) (K : Kp (Value → St → Prop)) : Prop := match c with | .bool t => K (if t then a else b) s | _ => False
@[go_sem] theorem XPick_true (a b : Value) : XPick (.bool true) a b s K = K a s := rfl
@[go_sem] theorem XPick_false (a b : Value) : XPick (.bool false) a b s K = K b s := rfl
@[go_sem ↓] theorem XOp_pick (c a b : Operand) : XOp P B dt ρ ⟨dst, .pick c a b, ty, pos, af, g⟩ s K = XPick (ρ c) (ρ a) (ρ b) s K := by
  simp only [XOp, notDefer, execOp, true_and, wpS_bind']
  cases ρ c <;> simp [asBool, wpS_pure, XPick, next, stuck, wpS]
def XExt (v : Value) (i : Nat) (K : Kp (Value → Prop)) : Prop := match v with | .tuple vs => XLd vs[i]? K | _ => False
@[go_sem] theorem XExt_tuple (vs : Array Value) (i : Nat) (K : Kp (Value → Prop)) : XExt (.tuple vs) i K = XLd vs[i]? K := rfl
@[go_sem ↓] theorem XOp_extract (t : Operand) (i : Nat) : XOp P B dt ρ ⟨dst, .extract t i, ty, pos, af, g⟩ s K = XExt (ρ t) i ⟨fun v => K v s, .mk⟩ := by
  simp only [XOp, notDefer, execOp, true_and, wpS_bind', wpS_pure, next]
  cases ρ t with
  | tuple vs =>
    simp only [Instr.extract, XExt]
    cases vs[i]? <;> simp [XLd, stuck, wpS, wpS_pure]
  | _ => simp [Instr.extract, XExt, stuck, wpS]
def XNil (P : Program) (dt : Bool) (v : Value) (s : St) (K : Kp (Value → St → Prop)) : Prop := wpS P dt (match v with
    | .pointer none | .nilIface | .nilFunc => runtimePanic .nilDeref
    | .func (.method name) first captured =>
      match (first[0]? : Option Value) with
      | some .nilIface => runtimePanic .nilDeref
      | some (.iface t w) => do
        if (← nilAhead ((← program).types.size + Made.depth) t w name) != some false then
          unsupported (.noEntry "op/nilCheck.the method's receiver behind this interface value is a nil pointer, or cannot be seen to be none, and the arguments act or may panic (ledger 612)")
        pure (.func (.method name) first captured)
      | _ => pure (.func (.method name) first captured)
    | x => pure x) s K.K
@[go_sem] theorem XNil_ptr (a : Addr) : XNil P dt (.pointer (some a)) s K = K (.pointer (some a)) s := rfl
@[go_sem] theorem XNil_func (f : FuncId) (a b : Array Value) : XNil P dt (.func (.func f) a b) s K = K (.func (.func f) a b) s := rfl
@[go_sem ↓] theorem XOp_nilCheck (x : Operand) : XOp P B dt ρ ⟨dst, .nilCheck x, ty, pos, af, g⟩ s K = XNil P dt (ρ x) s K := by
  simp only [XOp, notDefer, execOp, true_and, XNil]
  cases hx : ρ x with
  | pointer a => cases a <;> simp [wpS_pure, next, runtimePanic, program, goPanic, wpS, bind, Sem.bind]
  | nilIface => simp [wpS_pure, next, runtimePanic, program, goPanic, wpS, bind, Sem.bind]
  | nilFunc => simp [wpS_pure, next, runtimePanic, program, goPanic, wpS, bind, Sem.bind]
  | func f a b => cases f with
    | method name =>
      simp only
      cases ha : a[0]? with
      | none => simp [wpS_pure, next]
      | some w => cases w <;> simp [wpS_bind', wpS_program, wpS_pure, next, runtimePanic, goPanic, wpS, program, bind, Sem.bind, wpS_bind, unsupported] <;> (refine wpS_iff _ _ ?_; intro a s; (try split) <;> simp [wpS_pure, wpS, next])
    | _ => simp [wpS_pure, next]
  | _ => simp [wpS_pure, next]

/-! ### numbers -/
def XBin (P : Program) (dt : Bool) (op : BinOp) (t : TypeId) (x y : Operand) (a b : Value) (s : St) (K : Kp (Value → St → Prop)) : Prop := wpS P dt (do eqGuard op t x y a b; binOp op t a b) s K.K
@[go_sem ↓] theorem XOp_bin (op : BinOp) (t yt : TypeId) (x y : Operand) : XOp P B dt ρ ⟨dst, .binOp op t x y yt, ty, pos, af, g⟩ s K = XBin P dt op t x y (ρ x) (ρ y) s K := by
  simp only [XOp, notDefer, execOp, true_and, XBin, wpS_bind', wpS_pure, next]
section
variable (t : TypeId) (x y : Operand) (k k' : IntKind) (a b : Int)
@[go_sem] theorem XBin_add : XBin P dt .add t x y (.int k a) (.int k b) s K = K (.int k (k.wrap (a + b))) s := by simp [XBin, eqGuard, binOp, Op.intArith, wpS, pure, bind, Sem.bind]
@[go_sem] theorem XBin_sub : XBin P dt .sub t x y (.int k a) (.int k b) s K = K (.int k (k.wrap (a - b))) s := by simp [XBin, eqGuard, binOp, Op.intArith, wpS, pure, bind, Sem.bind]
@[go_sem] theorem XBin_mul : XBin P dt .mul t x y (.int k a) (.int k b) s K = K (.int k (k.wrap (a * b))) s := by simp [XBin, eqGuard, binOp, Op.intArith, wpS, pure, bind, Sem.bind]
@[go_sem] theorem XBin_quo : XBin P dt .quo t x y (.int k a) (.int k b) s K = (b ≠ 0 ∧ K (.int k (k.wrap (a.tdiv b))) s) := by
  by_cases h : b = 0 <;> simp [XBin, eqGuard, binOp, Op.intDiv, wpS, pure, bind, Sem.bind, h, runtimePanic, program, goPanic]
@[go_sem] theorem XBin_rem : XBin P dt .rem t x y (.int k a) (.int k b) s K = (b ≠ 0 ∧ K (.int k (a.tmod b)) s) := by
  by_cases h : b = 0 <;> simp [XBin, eqGuard, binOp, Op.intDiv, wpS, pure, bind, Sem.bind, h, runtimePanic, program, goPanic]
@[go_sem] theorem XBin_and : XBin P dt .and t x y (.int k a) (.int k b) s K = K (.int k (k.wrap (BitVec.ofInt k.bits a &&& BitVec.ofInt k.bits b).toNat)) s := by simp [XBin, eqGuard, binOp, Op.intBits, wpS, pure, bind, Sem.bind]
@[go_sem] theorem XBin_or : XBin P dt .or t x y (.int k a) (.int k b) s K = K (.int k (k.wrap (BitVec.ofInt k.bits a ||| BitVec.ofInt k.bits b).toNat)) s := by simp [XBin, eqGuard, binOp, Op.intBits, wpS, pure, bind, Sem.bind]
@[go_sem] theorem XBin_xor : XBin P dt .xor t x y (.int k a) (.int k b) s K = K (.int k (k.wrap (BitVec.ofInt k.bits a ^^^ BitVec.ofInt k.bits b).toNat)) s := by simp [XBin, eqGuard, binOp, Op.intBits, wpS, pure, bind, Sem.bind]
@[go_sem] theorem XBin_andNot : XBin P dt .andNot t x y (.int k a) (.int k b) s K = K (.int k (k.wrap (BitVec.ofInt k.bits a &&& ~~~BitVec.ofInt k.bits b).toNat)) s := by simp [XBin, eqGuard, binOp, Op.intBits, wpS, pure, bind, Sem.bind]
@[go_sem] theorem XBin_shl : XBin P dt .shl t x y (.int k a) (.int k' b) s K = (0 ≤ b ∧ K (.int k (k.wrap (a * 2 ^ (min b.toNat k.bits)))) s) := by
  by_cases h : b < 0
  · simp [XBin, eqGuard, binOp, Op.shift, wpS, pure, bind, Sem.bind, h, runtimePanic, program, goPanic]; omega
  · simp [XBin, eqGuard, binOp, Op.shift, wpS, pure, bind, Sem.bind, h]; omega
@[go_sem] theorem XBin_shr : XBin P dt .shr t x y (.int k a) (.int k' b) s K = (0 ≤ b ∧ K (.int k (a.fdiv (2 ^ (min b.toNat k.bits)))) s) := by
  by_cases h : b < 0
  · simp [XBin, eqGuard, binOp, Op.shift, wpS, pure, bind, Sem.bind, h, runtimePanic, program, goPanic]; omega
  · simp [XBin, eqGuard, binOp, Op.shift, wpS, pure, bind, Sem.bind, h]; omega
@[go_sem] theorem XBin_eql : XBin P dt .eql t x y (.int k a) (.int k b) s K = K (.bool (a == b)) s := by simp [XBin, eqGuard, binOp, Op.intCmp, wpS, pure, bind, Sem.bind]
@[go_sem] theorem XBin_neq : XBin P dt .neq t x y (.int k a) (.int k b) s K = K (.bool (a != b)) s := by simp [XBin, eqGuard, binOp, Op.intCmp, wpS, pure, bind, Sem.bind]
@[go_sem] theorem XBin_lss : XBin P dt .lss t x y (.int k a) (.int k b) s K = K (.bool (decide (a < b))) s := by simp [XBin, eqGuard, binOp, Op.intCmp, wpS, pure, bind, Sem.bind]
@[go_sem] theorem XBin_leq : XBin P dt .leq t x y (.int k a) (.int k b) s K = K (.bool (decide (a ≤ b))) s := by simp [XBin, eqGuard, binOp, Op.intCmp, wpS, pure, bind, Sem.bind]
@[go_sem] theorem XBin_gtr : XBin P dt .gtr t x y (.int k a) (.int k b) s K = K (.bool (decide (b < a))) s := by simp [XBin, eqGuard, binOp, Op.intCmp, wpS, pure, bind, Sem.bind]
@[go_sem] theorem XBin_geq : XBin P dt .geq t x y (.int k a) (.int k b) s K = K (.bool (decide (b ≤ a))) s := by simp [XBin, eqGuard, binOp, Op.intCmp, wpS, pure, bind, Sem.bind]
end
def XUn (P : Program) (dt : Bool) (op : UnOp) (a : Value) (s : St) (K : Kp (Value → St → Prop)) : Prop := wpS P dt (Op.unary op a) s K.K
@[go_sem ↓] theorem XOp_un (op : UnOp) (t : TypeId) (x : Operand) : XOp P B dt ρ ⟨dst, .unOp op t x, ty, pos, af, g⟩ s K = XUn P dt op (ρ x) s K := by
  simp only [XOp, notDefer, execOp, true_and, XUn, wpS_bind', wpS_pure, next]
@[go_sem] theorem XUn_not (b : Bool) : XUn P dt .not (.bool b) s K = K (.bool (!b)) s := rfl
@[go_sem] theorem XUn_neg (k : IntKind) (a : Int) : XUn P dt .neg (.int k a) s K = K (.int k (k.wrap (0 - a))) s := rfl
@[go_sem] theorem XUn_xor (k : IntKind) (a : Int) : XUn P dt .xor (.int k a) s K = K (.int k (k.wrap (BitVec.ofInt k.bits (if k.signed then -1 else k.max) ^^^ BitVec.ofInt k.bits a).toNat)) s := rfl
inductive CK where
  | int (k : IntKind)
  | same
  | other
/-- what a conversion does -/
def convK (P : Program) (src dst : TypeId) : CK := match P.underlying src, P.underlying dst with
  | some (.int _), some (.int k) => .int k
  | some .string, some .string => .same
  | _, _ => .other
def XConv (P : Program) (dt : Bool) (c : CK) (src dst : TypeId) (a : Value) (s : St) (K : Kp (Value → St → Prop)) : Prop := match c, a with
  | .int k', .int _ n => K (.int k' (k'.wrap n)) s
  | .same, .string x => K (.string x) s
  | _, a => wpS P dt (convert src dst a) s K.K
@[go_sem] theorem XConv_int (k k' : IntKind) (sr d : TypeId) (n : Int) : XConv P dt (.int k') sr d (.int k n) s K = K (.int k' (k'.wrap n)) s := rfl
@[go_sem] theorem XConv_same (sr d : TypeId) (x : ByteArray) : XConv P dt .same sr d (.string x) s K = K (.string x) s := rfl
@[go_sem ↓] theorem XOp_convert (sr d : TypeId) (x : Operand) : XOp P B dt ρ ⟨dst, .convert sr d x, ty, pos, af, g⟩ s K = XConv P dt (convK P sr d) sr d (ρ x) s K := by
  simp only [XOp, notDefer, execOp, true_and, XConv, wpS_bind', wpS_pure, next]
  split
  · rename_i k' k n hc ha
    unfold convK at hc
    split at hc
    · rename_i h1 h2; cases hc; simp only [ha, convert, wpS_bind', wpS_underlying _ h1, wpS_underlying _ h2, Conv.intToInt, wpS_pure]
    · cases hc
    · cases hc
  · rename_i x hc ha
    unfold convK at hc
    split at hc
    · cases hc
    · rename_i h1 h2; simp only [ha, convert, wpS_bind', wpS_underlying _ h1, wpS_underlying _ h2, wpS_pure]
    · cases hc
  · rfl

/-! ### memory -/
def XLs (o : Option (List Value)) (K : Kp (Array Value → Prop)) : Prop := match o with | some vs => K vs.toArray | none => False
def ocons : Option Value → Option (List Value) → Option (List Value)
  | some v, some vs => some (v :: vs)
  | _, _ => none
@[go_sem] theorem ocons_some (v : Value) (vs : List Value) : ocons (some v) (some vs) = some (v :: vs) := rfl
/-- n cells from a on -/
def ldN (s : St) (a : Addr) : Nat → Nat → Option (List Value)
  | _, 0 => some []
  | i, n + 1 => ocons (s.ld (a.add i)) (ldN s a (i + 1) n)
@[go_sem] theorem ldN_zero (a : Addr) (i : Nat) : ldN s a i 0 = some [] := rfl
theorem ldN_succ (a : Addr) (i n : Nat) : ldN s a i (n + 1) = ocons (s.ld (a.add i)) (ldN s a (i + 1) n) := rfl
@[go_sem ↓] theorem XLs_some (v : List Value) (K : Kp (Array Value → Prop)) : XLs (some v) K = K v.toArray := rfl
theorem wpS_loadCellsFrom (a : Addr) (n : Nat) : ∀ (i : Nat) (acc : List Value) (K : Array Value → St → Prop), wpS P dt (loadCellsFrom a i n acc.toArray) s K = XLs (ldN s a i n) ⟨fun cs => K (acc.toArray ++ cs) s, .mk⟩ := by
  induction n with
  | zero => intros; simp [loadCellsFrom, wpS_pure, XLs, ldN]
  | succ n ih =>
    intro i acc K
    simp only [loadCellsFrom, wpS_bind', load, wpS, ldN]
    cases hl : s.ld (a.add i) with
    | none => simp [ocons, XLs]
    | some v =>
      have := ih (i + 1) (acc ++ [v]) K
      simp only [Option.some.injEq, exists_eq_left']
      rw [show acc.toArray.push v = (acc ++ [v]).toArray by simp, this]
      cases ldN s a (i + 1) n <;> simp [ocons, XLs]
/-- of type t, how many cells; none: a value of one cell -/
def aggSize (P : Program) (t : TypeId) : Option (Option Nat) := match P.underlying t with
  | some (.struct _) => (P.info? t).map fun i => some i.size
  | some (.array _ _) => (P.info? t).map fun i => some i.size
  | some _ => some none
  | none => none
def XLoad (P : Program) (t : TypeId) (v : Value) (s : St) (K : Kp (Value → Prop)) : Prop := match v with
  | .pointer (some a) => match aggSize P t with
    | some (some n) => XLs (ldN s a 0 n) ⟨fun cs => K (.agg cs), .mk⟩
    | some none => XLd (s.ld a) K
    | none => False
  | _ => False
theorem aggSize_agg {t : TypeId} {n : Nat} (h : aggSize P t = some (some n)) : ∃ i, P.info? t = some i ∧ i.size = n ∧ ((∃ fs, P.underlying t = some (.struct fs)) ∨ (∃ k e, P.underlying t = some (.array k e))) := by
  unfold aggSize at h
  split at h
  · rename_i fs hu; cases hi : P.info? t with
    | none => simp [hi] at h
    | some i => simp [hi] at h; exact ⟨i, rfl, h, .inl ⟨_, hu⟩⟩
  · rename_i k e hu; cases hi : P.info? t with
    | none => simp [hi] at h
    | some i => simp [hi] at h; exact ⟨i, rfl, h, .inr ⟨_, _, hu⟩⟩
  · cases h
  · cases h
theorem aggSize_one {t : TypeId} (h : aggSize P t = some none) : ∃ d, P.underlying t = some d ∧ (∀ fs, d ≠ .struct fs) ∧ (∀ k e, d ≠ .array k e) := by
  unfold aggSize at h
  split at h
  · cases hi : P.info? t <;> simp [hi] at h
  · cases hi : P.info? t <;> simp [hi] at h
  · rename_i d h1 h2 hu; exact ⟨d, hu, fun fs e => h1 fs e, fun k e x => h2 k e x⟩
  · cases h
theorem wpS_isAgg_agg {t : TypeId} {n : Nat} (h : aggSize P t = some (some n)) (K : Bool → St → Prop) : wpS P dt (isAgg t) s K = K true s := by
  obtain ⟨i, hi, hn, h⟩ := aggSize_agg h
  rcases h with ⟨fs, hu⟩ | ⟨k, e, hu⟩ <;> simp only [isAgg, wpS_bind', wpS_underlying _ hu, wpS_pure]
theorem wpS_isAgg_one {t : TypeId} (h : aggSize P t = some none) (K : Bool → St → Prop) : wpS P dt (isAgg t) s K = K false s := by
  obtain ⟨d, hu, h1, h2⟩ := aggSize_one h
  simp only [isAgg, wpS_bind', wpS_underlying _ hu]
  cases d <;> first | rfl | exact absurd rfl (h1 _) | exact absurd rfl (h2 _ _)
theorem wpS_sizeOf_agg {t : TypeId} {n : Nat} (h : aggSize P t = some (some n)) (K : Nat → St → Prop) : wpS P dt (sizeOf t) s K = K n s := by
  obtain ⟨i, hi, hn, h⟩ := aggSize_agg h
  simp only [sizeOf, wpS_bind', wpS_typeInfo _ hi, wpS_pure, hn]
theorem wpS_loadVar {t : TypeId} {a : Addr} {K : Value → St → Prop} : wpS P dt (loadVar t a) s K = XLoad P t (.pointer (some a)) s ⟨fun v => K v s, .mk⟩ := by
  simp only [XLoad]
  cases hg : aggSize P t with
  | none =>
    simp only
    unfold aggSize at hg
    split at hg
    · rename_i fs hu; cases hi : P.info? t with
      | none => simp [loadVar, isAgg, wpS_bind', wpS_underlying _ hu, wpS_pure, sizeOf, typeInfo, wpS_program, hi, stuck, wpS]
      | some i => simp [hi] at hg
    · rename_i k e hu; cases hi : P.info? t with
      | none => simp [loadVar, isAgg, wpS_bind', wpS_underlying _ hu, wpS_pure, sizeOf, typeInfo, wpS_program, hi, stuck, wpS]
      | some i => simp [hi] at hg
    · cases hg
    · rename_i hu; simp [loadVar, isAgg, underlying, wpS_bind', wpS_program, hu, stuck, wpS]
  | some o => cases o with
    | none =>
      simp only [loadVar, wpS_bind', wpS_isAgg_one hg, load, wpS, Bool.false_eq_true, if_false]
      cases s.ld a <;> simp [XLd]
    | some n =>
      simp only [loadVar, wpS_bind', wpS_isAgg_agg hg, if_true, wpS_sizeOf_agg hg, loadCells]
      rw [show (#[] : Array Value) = ([] : List Value).toArray from rfl, wpS_loadCellsFrom]
      cases ldN s a 0 n <;> simp [XLs, wpS_pure]
@[go_sem ↓] theorem XOp_load (t : TypeId) (x : Operand) : XOp P B dt ρ ⟨dst, .load t x, ty, pos, af, g⟩ s K = XLoad P t (ρ x) s ⟨fun v => K v s, .mk⟩ := by
  simp only [XOp, notDefer, execOp, true_and, wpS_bind', Instr.loadAt, wpS_pure, next]
  cases ρ x with
  | pointer a => cases a with
    | none => simp [Instr.sureAddr, stuck, wpS, XLoad]
    | some a => simp only [Instr.sureAddr, wpS_pure, wpS_loadVar]
  | _ => simp [Instr.sureAddr, stuck, wpS, XLoad]
theorem wpR_loadVar {t : TypeId} {a : Addr} {K : Value → Prop} (h : XLoad P t (.pointer (some a)) s ⟨K, .mk⟩) : wpR P (loadVar t a) s K := by
  have key : ∀ n i (acc : List Value) (K : Array Value → Prop), XLs (ldN s a i n) ⟨fun cs => K (acc.toArray ++ cs), .mk⟩ → wpR P (loadCellsFrom a i n acc.toArray) s K := by
    intro n
    induction n with
    | zero => intro i acc K h; simpa [loadCellsFrom, wpR, pure, XLs, ldN] using h
    | succ n ih =>
      intro i acc K h
      simp only [ldN] at h
      cases hl : s.ld (a.add i) with
      | none => simp [hl, ocons, XLs] at h
      | some v =>
        simp only [loadCellsFrom, load, bind, Sem.bind, wpR]
        refine ⟨v, hl, ?_⟩
        rw [hl] at h
        have := ih (i + 1) (acc ++ [v]) K (by cases hr : ldN s a (i + 1) n <;> simp [hr, ocons, XLs] at h ⊢; exact h)
        simpa using this
  simp only [XLoad] at h
  cases hg : aggSize P t with
  | none => simp [hg] at h
  | some o => cases o with
    | none =>
      simp only [hg] at h
      obtain ⟨d, hu, h1, h2⟩ := aggSize_one hg
      cases hl : s.ld a with
      | none => simp [hl, XLd] at h
      | some v =>
        rw [hl] at h
        simp only [loadVar, isAgg, underlying, program, bind, Sem.bind, wpR, hu, pure]
        cases d <;> first | exact absurd rfl (h1 _) | exact absurd rfl (h2 _ _) | exact ⟨v, hl, h⟩
    | some n =>
      simp only [hg] at h
      obtain ⟨i, hi, hn, hh⟩ := aggSize_agg hg
      subst hn
      have hh' := key i.size 0 [] (fun cs => K (.agg cs)) (by cases hl : ldN s a 0 i.size <;> simp [hl, XLs] at h ⊢; exact h)
      rcases hh with ⟨fs, hu⟩ | ⟨k, e, hu⟩ <;>
      · simp only [loadVar, isAgg, underlying, program, bind, Sem.bind, wpR, hu, pure, sizeOf, typeInfo, hi, if_true, loadCells]
        rw [wpR_bind]; exact hh'

/-! ### stores -/
def stC (o : Option Obj) (spot : Option Nat) (off : Nat) (v : Value) : Option Obj := match o, spot with
  | some (.cells c T (0, 0)), none => if off < c.size ∧ oneCell v = true then some (.cells (c.setIfInBounds off v) T (0, 0)) else none
  | _, _ => none
@[go_sem] theorem stC_cells (c : Array Value) (T : TypeId) (off : Nat) (v : Value) : stC (some (.cells c T (0, 0))) none off v = if off < c.size ∧ oneCell v = true then some (.cells (c.setIfInBounds off v) T (0, 0)) else none := rfl
def XObj (o : Option Obj) (K : Kp (Obj → Prop)) : Prop := match o with | some o => K o | none => False
@[go_sem ↓] theorem XObj_some (o : Obj) (K : Kp (Obj → Prop)) : XObj (some o) K = K o := rfl
def XSto (s : St) (a : Addr) : List Value → Nat → Kp (St → Prop) → Prop
  | [], _, K => K s
  | v :: vs, i, K => XObj (stC (s.h (a.add i).block) (a.add i).spot (a.add i).off v) ⟨fun o => XSto (s.upd (a.add i).block o) a vs (i + 1) K, .mk⟩
@[go_sem ↓] theorem XSto_nil (a : Addr) (i : Nat) (K : Kp (St → Prop)) : XSto s a [] i K = K s := rfl
@[go_sem ↓] theorem XSto_cons (a : Addr) (v : Value) (vs : List Value) (i : Nat) (K : Kp (St → Prop)) : XSto s a (v :: vs) i K = XObj (stC (s.h (a.add i).block) (a.add i).spot (a.add i).off v) ⟨fun o => XSto (s.upd (a.add i).block o) a vs (i + 1) K, .mk⟩ := rfl
theorem wpS_storeCells (a : Addr) (vs : List Value) : ∀ (s : St) (i : Nat) (K : Unit → St → Prop), wpS P dt (storeCells a vs i) s K = XSto s a vs i ⟨fun s => K () s, .mk⟩ := by
  induction vs with
  | nil => intros; simp only [storeCells, wpS_pure, XSto]
  | cons v vs ih =>
    intro s i K
    simp only [storeCells, wpS_bind', store, wpS, ih, XSto]
    refine propext ⟨?_, ?_⟩
    · rintro ⟨h1, c, T, h2, h3, h4, h⟩
      simp only [h2, h3, stC, h4, h1, and_self, if_true, XObj]; exact h
    · intro h
      unfold stC at h
      split at h
      · rename_i c T he hsp
        split at h
        · rename_i hc
          exact ⟨hc.2, c, T, hsp, he, hc.1, h⟩
        · exact h.elim
      · exact h.elim
/-- of type t, how many cells -/
def cellsN (P : Program) (t : TypeId) : Option Nat := (P.info? t).map (·.size)
def XStore (n : Option Nat) (a v : Value) (s : St) (K : Kp (St → Prop)) : Prop := match a with
  | .pointer (some a) => XIf (n = some v.cells.size) ⟨fun _ => XSto s a v.cells.toList 0 K, .mk⟩
  | _ => False
@[go_sem] theorem XStore_ptr (n : Option Nat) (a : Addr) (v : Value) (K : Kp (St → Prop)) : XStore n (.pointer (some a)) v s K = XIf (n = some v.cells.size) ⟨fun _ => XSto s a v.cells.toList 0 K, .mk⟩ := rfl
@[go_sem ↓] theorem XOp_store (t : TypeId) (x y : Operand) : XOp P B dt ρ ⟨dst, .store t x y, ty, pos, af, g⟩ s K = XStore (cellsN P t) (ρ x) (ρ y) s ⟨fun s => K undef s, .mk⟩ := by
  simp only [XOp, notDefer, execOp, true_and, wpS_bind', Instr.storeAt, wpS_pure, next]
  cases ρ x with
  | pointer a => cases a with
    | none => simp [Instr.sureAddr, stuck, wpS, XStore]
    | some a =>
      simp only [Instr.sureAddr, wpS_pure, storeVar, wpS_bind', sizeOf, typeInfo, wpS_program, XStore, cellsN]
      cases hi : P.info? t with
      | none => simp [stuck, wpS, XIf]
      | some i =>
        simp only [wpS_pure, Option.map_some, Option.some.injEq, XIf]
        by_cases e : (ρ y).cells.size = i.size
        · simp [e, wpS_storeCells, wpS_bind', wpS_pure, wpS_ite]
        · simp [e, Ne.symm e, stuck, wpS, wpS_bind', wpS_ite]
  | _ => simp [Instr.sureAddr, stuck, wpS, XStore]

/-! ### new blocks -/
def zeroOf (P : Program) (t : TypeId) : Option (Array Value) := (P.info? t).bind fun i => i.zero.map (·.cells)
def XZero (z : Option (Array Value)) (K : Kp (Array Value → Prop)) : Prop := match z with | some z => K z | none => False
@[go_sem ↓] theorem XZero_some (z : Array Value) (K : Kp (Array Value → Prop)) : XZero (some z) K = K z := rfl
theorem wpS_zero (t : TypeId) (K : Array Value → St → Prop) : wpS P dt (zeroValue t) s (fun v s => K v.cells s) = XZero (zeroOf P t) ⟨fun z => K z s, .mk⟩ := by
  simp only [zeroValue, typeInfo, wpS_bind', wpS_program, zeroOf]
  cases hi : P.info? t with
  | none => simp [stuck, wpS, XZero]
  | some i =>
    simp only [wpS_pure, Option.bind_some]
    cases hz : i.zero <;> simp [unsupported, wpS, XZero, wpS_pure]
@[go_sem ↓] theorem XOp_alloc (t : TypeId) : XOp P B dt ρ ⟨dst, .alloc t, ty, pos, af, g⟩ s K = XZero (zeroOf P t) ⟨fun z => K (.pointer (some ⟨s.n, 0, none⟩)) (s.new (.cells z t)), .mk⟩ := by
  rw [← wpS_zero (dt := dt) t (fun z s => K (.pointer (some ⟨s.n, 0, none⟩)) (s.new (.cells z t)))]
  simp only [XOp, notDefer, execOp, true_and, wpS_bind', Instr.alloc, wpS_pure, next, newVar, newRow, newObj, wpS_new, wpS_pure']
@[go_sem ↓] theorem XOp_box (t : TypeId) (x : Operand) : XOp P B dt ρ ⟨dst, .box t x, ty, pos, af, g⟩ s K = XVal (ρ x) ⟨fun v => K (.pointer (some ⟨s.n, 0, none⟩)) (s.new (.cells v.cells t)), .mk⟩ := by
  simp [XVal, XOp, notDefer, execOp, true_and, wpS_bind', Instr.box, wpS_pure, newVar, newRow, newObj, wpS_map, wpS_new, wpS_pure', next]
/-- a field's place -/
def fieldOff (P : Program) (t : TypeId) (i : Nat) : Option Nat := match P.underlying t with
  | some (.struct fs) => (fs[i]?).bind fun f => (P.info? f.type).bind fun j => if j.size = 0 then none else some f.offset
  | _ => none
def XFieldAddr (P : Program) (dt : Bool) (o : Option Nat) (t : TypeId) (i : Nat) (v : Value) (s : St) (K : Kp (Value → St → Prop)) : Prop := match o, v with
  | some off, .pointer (some a) => K (.pointer (some (a.add off))) s
  | _, v => wpS P dt (Instr.fieldAt t v i) s K.K
@[go_sem] theorem XFieldAddr_some (off : Nat) (t : TypeId) (i : Nat) (a : Addr) : XFieldAddr P dt (some off) t i (.pointer (some a)) s K = K (.pointer (some (a.add off))) s := rfl
@[go_sem ↓] theorem XOp_fieldAddr (t : TypeId) (x : Operand) (i : Nat) : XOp P B dt ρ ⟨dst, .fieldAddr t x i, ty, pos, af, g⟩ s K = XFieldAddr P dt (fieldOff P t i) t i (ρ x) s K := by
  simp only [XOp, notDefer, execOp, true_and, wpS_bind', wpS_pure, next]
  unfold XFieldAddr
  split
  · rename_i off v a ho hv
    unfold fieldOff at ho
    split at ho
    · rename_i fs hu
      cases hf : fs[i]? with
      | none => simp [hf] at ho
      | some f =>
        cases hj : P.info? f.type with
        | none => simp [hf, hj] at ho
        | some j =>
          simp only [hf, hj, Option.bind_some] at ho
          split at ho
          · cases ho
          · rename_i hne
            cases ho
            simp only [Instr.fieldAt, wpS_bind', wpS_underlying _ hu, hf, hv, Instr.sureAddr, wpS_pure, fieldPlace, sizeOf, wpS_typeInfo _ hj, wpS_ite, if_neg hne]
    · cases ho
  · rfl

/-! ### elements -/
inductive IxK where
  | slice (size : Nat)
  | array (len size : Nat)
  | other
def ixKind (P : Program) (t : TypeId) : IxK := match P.underlying t with
  | some (.slice e) => match P.info? e with | some i => .slice i.size | none => .other
  | some (.array n e) => match P.info? e with | some i => if 2 ≤ n then .array n i.size else .other | none => .other
  | _ => .other
def XAd (a : Option Addr) (K : Kp (Addr → Prop)) : Prop := match a with | some a => K a | none => False
@[go_sem ↓] theorem XAd_some (a : Addr) (K : Kp (Addr → Prop)) : XAd (some a) K = K a := rfl
def XIndexAddr (P : Program) (dt : Bool) (k : IxK) (t : TypeId) (v i : Value) (s : St) (K : Kp (Value → St → Prop)) : Prop := match k, v, i with
  | .slice sz, .slice a n _, .int _ i => XIf (0 ≤ i ∧ i < n) ⟨fun _ => XAd a ⟨fun ad => K (.pointer (some (ad.add (i.toNat * sz)))) s, .mk⟩, .mk⟩
  | .array n sz, .pointer (some ad), .int _ i => XIf (0 ≤ i ∧ i < n) ⟨fun _ => K (.pointer (some (ad.add (i.toNat * sz)))) s, .mk⟩
  | _, v, i => wpS P dt (Instr.indexAt t v i) s K.K
@[go_sem] theorem XIndexAddr_slice (sz : Nat) (t : TypeId) (a : Option Addr) (n c : Nat) (j : IntKind) (i : Int) :
    XIndexAddr P dt (.slice sz) t (.slice a n c) (.int j i) s K = XIf (0 ≤ i ∧ i < n) ⟨fun _ => XAd a ⟨fun ad => K (.pointer (some (ad.add (i.toNat * sz)))) s, .mk⟩, .mk⟩ := rfl
@[go_sem] theorem XIndexAddr_array (sz : Nat) (t : TypeId) (a : Addr) (n : Nat) (j : IntKind) (i : Int) :
    XIndexAddr P dt (.array n sz) t (.pointer (some a)) (.int j i) s K = XIf (0 ≤ i ∧ i < n) ⟨fun _ => K (.pointer (some (a.add (i.toNat * sz)))) s, .mk⟩ := rfl
theorem bounds_False (k : IntKind) (x y : Int) (c : BoundsCode) (K : Value → St → Prop) : wpS P dt (boundsPanic (α := Value) k x y c) s K = False := by
  unfold boundsPanic
  split
  · simp [wpS_bind', choose, wpS, runtimePanic, program, goPanic, bind, Sem.bind, Question.forced, Functor.map, pure]
  · simp only [wpS_bind', wpS_pure]; simp [runtimePanic, program, goPanic, wpS, bind, Sem.bind]
@[go_sem ↓] theorem XOp_indexAddr (t : TypeId) (x i : Operand) : XOp P B dt ρ ⟨dst, .indexAddr t x i, ty, pos, af, g⟩ s K = XIndexAddr P dt (ixKind P t) t (ρ x) (ρ i) s K := by
  simp only [XOp, notDefer, execOp, true_and, wpS_bind', wpS_pure, next]
  unfold XIndexAddr
  split
  · rename_i sz a n c j i' hk hv hi
    unfold ixKind at hk
    split at hk
    · rename_i e hu
      split at hk
      · rename_i inf hinf
        cases hk
        simp only [Instr.indexAt, hv, hi, asIntOf, wpS_bind', wpS_pure, wpS_underlying _ hu, wpS_ite]
        cases a with
        | none => simp [bounds_False, XIf, XAd]
        | some ad =>
          simp only [XIf, XAd]
          by_cases h : 0 ≤ i' ∧ i' < (n : Int)
          · simp [h, sizeOf, wpS_bind', wpS_map, wpS_typeInfo _ hinf, wpS_pure]
          · simp [h, bounds_False, XIf]
      · cases hk
    · split at hk
      · split at hk <;> cases hk
      · cases hk
    · cases hk
  · rename_i n sz ad j i' hk hv hi
    unfold ixKind at hk
    split at hk
    · split at hk <;> cases hk
    · rename_i n' e hu
      split at hk
      · rename_i inf hinf
        split at hk
        · rename_i h2
          cases hk
          simp only [Instr.indexAt, hv, hi, asIntOf, wpS_bind', wpS_pure, wpS_underlying _ hu, wpS_ite, Instr.sureAddr]
          simp only [XIf]
          by_cases h : 0 ≤ i' ∧ i' < (n : Int)
          · simp [h, sizeOf, wpS_bind', wpS_map, wpS_typeInfo _ hinf, wpS_pure]
          · have ht : ¬ (n ≤ 1) := by omega
            simp [h, ht, bounds_False, XIf]
        · cases hk
      · cases hk
    · cases hk
  · rfl

/-! ### calls -/
def XCallV (P : Program) (B : Env P) (dt : Bool) (f : Value) (args : List Value) (s : St) (K : Kp (Value → St → Prop)) : Prop := match f with
  | .func (.func g) first captured => wpS P dt (callFunc g (first ++ args.toArray ++ captured)) s (next P B dt K.K)
  | .func fn first captured => wpS P dt (invoke (.fn fn captured) (first ++ args.toArray)) s (next P B dt K.K)
  | _ => False
@[go_sem ↓] theorem XOp_call (f : Operand) (args : List Operand) (tys : Array TypeId) : XOp P B dt ρ ⟨dst, .call ⟨.value f, args.toArray, tys⟩, ty, pos, af, g⟩ s K = XCallV P B dt (ρ f) (args.map ρ) s K := by
  simp only [XOp, notDefer, execOp, true_and, wpS_bind', resolve]
  cases ρ f with
  | func fn first captured =>
    simp only [Deferred.ofValue, wpS_pure, List.map_toArray]
    cases fn with
    | func g => simp only [invoke, XCallV]
    | _ => simp only [XCallV]
  | nilFunc => simp [Deferred.ofValue, wpS_pure, invoke, runtimePanic, program, goPanic, wpS, XCallV, bind, Sem.bind, wpS_bind']
  | _ => simp [Deferred.ofValue, stuck, wpS, XCallV]
/-- a call: here simp stands still -/
def XCallOK (P : Program) (B : Env P) (f : FuncId) (args : Array Value) (s : St) (K : Kp (Value → St → Prop)) : Prop := B.ct f args s K
theorem XCallV_enter {f : FuncId} {fn : Func} (h : P.funcs[f]? = some fn) (hb : fn.body.isSome = true) (hn : (fn.name == "runtime.NumGoroutine") = false) (first captured : Array Value) (args : List Value) :
    XCallV P B false (.func (.func f) first captured) args s K = XCallOK P B f (first ++ args.toArray ++ captured) s K := by
  have hb' : fn.body.isNone = false := by cases h : fn.body <;> simp_all
  simp only [XCallV, callFunc, wpS_bind', wpS_program, h, hn, hb', Bool.false_eq_true, if_false, wpS_pure, next, XCallOK, true_and, Kp.eta]
end
end Go.Proofs.TX
