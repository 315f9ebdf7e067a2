/- The operations' rules, fourth part: strings, equality, iterators over strings. -/
import Derived.Test.YtfndoonmgilklaaGreatDoorXOps3
import Derived.Laws.Strings
set_option linter.unusedSimpArgs false
set_option linter.unusedVariables false
namespace Go.Proofs.TX
open Go
section
variable {P : Program} {dt : Bool} {B : Env P} {ρ : Operand → Value} {s : St} {K : Kp (Value → St → Prop)} {dst : Option Tmp} {ty : TypeId} {pos : String} {af : Array Edge} {g : Option (Nat × Bool)}
/-! ### strings -/
theorem ba_list (a b : ByteArray) : (a.toList == b.toList) = decide (a = b) := by
  have h : a.toList = b.toList ↔ a = b := by
    rw [ByteArray.toList_eq, ByteArray.toList_eq]
    exact ⟨fun h => ByteArray.ext (Array.ext' h), fun h => by rw [h]⟩
  by_cases e : a = b
  · subst e; simp
  · simp [e, h]
theorem i64max : IntKind.i64.max = 9223372036854775807 := rfl
@[go_sem] theorem XBin_sadd (t : TypeId) (x y : Operand) (a b : ByteArray) : XBin P dt .add t x y (.string a) (.string b) s K = XIf (a.size + b.size ≤ 9223372036854775807) ⟨fun _ => K (.string (a ++ b)) s, .mk⟩ := by
  have e : (eqGuard .add t x y (.string a) (.string b) : Sem Unit) = pure () := rfl
  have e2 : binOp .add t (.string a) (.string b) = if ((a.size + b.size : Nat) : Int) > IntKind.i64.max then unsupported (.resourceLimit "string concatenation: a sum of the lengths that is no int") else pure (.string (a ++ b)) := rfl
  simp only [XBin, e, e2, wpS_bind', wpS_pure, XIf]
  by_cases h' : ((a.size + b.size : Nat) : Int) > IntKind.i64.max
  · have h := h'
    rw [i64max] at h
    rw [if_pos h']
    simp [unsupported, wpS]; omega
  · have h := h'
    rw [i64max] at h
    rw [if_neg h', wpS_pure]
    have : a.size + b.size ≤ 9223372036854775807 := by omega
    simp [this]
@[go_sem] theorem XBin_seql (t : TypeId) (x y : Operand) (a b : ByteArray) : XBin P dt .eql t x y (.string a) (.string b) s K = K (.bool (decide (a = b))) s := by
  simp [XBin, eqGuard, binOp, Op.stringOp, wpS, pure, bind, Sem.bind, ← ba_list]
@[go_sem] theorem XBin_sneq (t : TypeId) (x y : Operand) (a b : ByteArray) : XBin P dt .neq t x y (.string a) (.string b) s K = K (.bool (!decide (a = b))) s := by
  simp [XBin, eqGuard, binOp, Op.stringOp, wpS, pure, bind, Sem.bind, ← ba_list]

/-! ### equality at types that hold bools, numbers and strings alone -/
inductive Leaf where
  | bool
  | int (k : IntKind)
  | str
deriving DecidableEq
def leafOk : Leaf → Value → Bool
  | .bool, .bool _ => true
  | .int k, .int k' _ => k == k'
  | .str, .string _ => true
  | _, _ => false
/-- the leaves of a type, in their order; fields are taken by f -/
def flatFs (P : Program) (f : TypeId → Option (List Leaf)) : List Field → Nat → Option (List Leaf)
  | [], _ => some []
  | fd :: fs, off => if fd.name ≠ "_" ∧ fd.offset = off then match f fd.type, aggSize P fd.type with
      | some [l], some none => (flatFs P f fs (off + 1)).map (l :: ·)
      | some ls, some (some n) => if ls.length = n then (flatFs P f fs (off + n)).map (ls ++ ·) else none
      | _, _ => none
    else none
def leaves (P : Program) : Nat → TypeId → Option (List Leaf)
  | 0, _ => none
  | d + 1, t => match P.underlying t with
    | some .bool => some [.bool]
    | some (.int k) => some [.int k]
    | some .string => some [.str]
    | some (.struct fs) => if P.stoodInHeld t then none else match flatFs P (leaves P d) fs.toList 0, aggSize P t with
      | some ls, some (some n) => if n = ls.length then some ls else none
      | _, _ => none
    | _ => none
theorem flatFs_size (P : Program) (f : TypeId → Option (List Leaf)) : ∀ (fs : List Field) (off : Nat) (ls : List Leaf), flatFs P f fs off = some ls → True := fun _ _ _ _ => trivial
def fitsL : List Leaf → List Value → Bool
  | [], [] => true
  | l :: ls, v :: vs => leafOk l v && fitsL ls vs
  | _, _ => false
@[go_sem] theorem fitsL_nil : fitsL [] [] = true := rfl
@[go_sem] theorem fitsL_cons (l : Leaf) (ls : List Leaf) (v : Value) (vs : List Value) : fitsL (l :: ls) (v :: vs) = (leafOk l v && fitsL ls vs) := rfl
@[go_sem] theorem leafOk_bool (b : Bool) : leafOk .bool (.bool b) = true := rfl
@[go_sem] theorem leafOk_int (k : IntKind) (n : Int) : leafOk (.int k) (.int k n) = true := by simp [leafOk]
@[go_sem] theorem leafOk_str (b : ByteArray) : leafOk .str (.string b) = true := rfl
theorem fitsL_length : ∀ (ls : List Leaf) (vs : List Value), fitsL ls vs = true → vs.length = ls.length := by
  intro ls
  induction ls with
  | nil => intro vs h; cases vs <;> simp_all [fitsL]
  | cons l ls ih => intro vs h; cases vs with
    | nil => simp [fitsL] at h
    | cons v vs => simp only [fitsL, Bool.and_eq_true] at h; simp [ih _ h.2]
theorem fitsL_append : ∀ (l1 l2 : List Leaf) (vs : List Value), fitsL (l1 ++ l2) vs = true → fitsL l1 (vs.take l1.length) = true ∧ fitsL l2 (vs.drop l1.length) = true := by
  intro l1
  induction l1 with
  | nil => intro l2 vs h; exact ⟨by simp [fitsL], by simpa using h⟩
  | cons l ls ih => intro l2 vs h; cases vs with
    | nil => simp [fitsL] at h
    | cons v vs =>
      simp only [List.cons_append, fitsL, Bool.and_eq_true] at h
      have := ih _ _ h.2
      simp [fitsL, h.1, this]
theorem wpS_bool {m : Sem Bool} {b : Bool} (h : ∀ (s : St) (K : Bool → St → Prop), wpS P dt m s K = K b s) (K : Value → St → Prop) : wpS P dt (do pure (.bool (← m))) s K = K (.bool b) s := by
  simp only [wpS_bind', wpS_pure, h]
def eqV : Value → Value → Bool
  | .bool a, .bool b => a == b
  | .int _ a, .int _ b => a == b
  | .string a, .string b => decide (a = b)
  | _, _ => false
def eqL : List Value → List Value → Bool
  | [], [] => true
  | x :: xs, y :: ys => eqV x y && eqL xs ys
  | _, _ => false
@[go_sem] theorem eqV_bool (a b : Bool) : eqV (.bool a) (.bool b) = (a == b) := rfl
@[go_sem] theorem eqV_int (k k' : IntKind) (a b : Int) : eqV (.int k a) (.int k' b) = (a == b) := rfl
@[go_sem] theorem eqV_str (a b : ByteArray) : eqV (.string a) (.string b) = decide (a = b) := rfl
@[go_sem] theorem eqL_nil : eqL [] [] = true := rfl
@[go_sem] theorem eqL_cons (x y : Value) (xs ys : List Value) : eqL (x :: xs) (y :: ys) = (eqV x y && eqL xs ys) := rfl
theorem eqL_append : ∀ (n : Nat) (xs ys : List Value), xs.length = ys.length → n ≤ xs.length → (eqL (xs.take n) (ys.take n) && eqL (xs.drop n) (ys.drop n)) = eqL xs ys := by
  intro n
  induction n with
  | zero => intro xs ys _ _; simp [eqL]
  | succ n ih => intro xs ys h hn; cases xs with
    | nil => simp at hn
    | cons x xs => cases ys with
      | nil => simp at h
      | cons y ys =>
        simp only [List.take_succ_cons, List.drop_succ_cons, eqL, Bool.and_assoc]
        rw [ih xs ys (by simpa using h) (by simpa using hn)]
theorem ba_beq (a b : ByteArray) : (a == b) = decide (a = b) := by
  show ByteArray.beq a b = _
  cases a; cases b; rename_i a b
  by_cases e : a = b
  · subst e; simp [ByteArray.beq]
  · simp [ByteArray.beq, e]
/-- a leaf type's test, or a struct's -/
def EqOK (P : Program) (dt : Bool) (d : Nat) (t : TypeId) (ls : List Leaf) : Prop := match aggSize P t with
  | some (some n) => n = ls.length ∧ ∀ xs ys : List Value, fitsL ls xs = true → fitsL ls ys = true → ∀ (s : St) (K : Bool → St → Prop), wpS P dt (Op.equalIn d t (.agg xs.toArray) (.agg ys.toArray)) s K = K (eqL xs ys) s
  | some none => ∀ l, ls = [l] → ∀ x y : Value, leafOk l x = true → leafOk l y = true → ∀ (s : St) (K : Bool → St → Prop), wpS P dt (Op.equalIn d t x y) s K = K (eqV x y) s
  | none => True
theorem wpS_fields {d : Nat} {f : TypeId → Option (List Leaf)} (hf : ∀ t ls, f t = some ls → EqOK P dt d t ls) (xs ys : List Value) (g : Field → Option Bool × Unit → Sem (ForInStep (Option Bool × Unit)))
    (hg : ∀ fd r, fd.name ≠ "_" → ∀ (s : St) (K : ForInStep (Option Bool × Unit) → St → Prop), wpS P dt (g fd r) s K = wpS P dt (part fd.type xs.toArray fd.offset) s fun a s => wpS P dt (part fd.type ys.toArray fd.offset) s fun b s => wpS P dt (Op.equalIn d fd.type a b) s fun c s =>
      K (match c with | true => ForInStep.yield (none, ()) | false => ForInStep.done (some false, ())) s) :
    ∀ (fs : List Field) (off : Nat) (ls : List Leaf), flatFs P f fs off = some ls → fitsL ls (xs.drop off) = true → fitsL ls (ys.drop off) = true →
    ∀ (s : St) (K : Option Bool × Unit → St → Prop), wpS P dt (forIn (m := Sem) fs ((none, ()) : Option Bool × Unit) g) s K = K (if eqL (xs.drop off) (ys.drop off) = true then none else some false, ()) s := by
  intro fs
  induction fs with
  | nil =>
    intro off ls h hx hy s K
    simp only [flatFs, Option.some.injEq] at h
    subst h
    have e1 : xs.drop off = [] := by cases hh : xs.drop off <;> simp_all [fitsL]
    have e2 : ys.drop off = [] := by cases hh : ys.drop off <;> simp_all [fitsL]
    simp [e1, e2, eqL, wpS_pure]
  | cons fd fs ih =>
    intro off ls h hx hy s K
    simp only [flatFs] at h
    split at h
    · rename_i hc
      simp only [List.forIn_cons, wpS_bind', hg _ _ hc.1]
      split at h
      · rename_i l hl hag
        simp only [Option.map_eq_some_iff] at h
        obtain ⟨ls', hls', rfl⟩ := h
        have hok := hf _ _ hl
        simp only [EqOK, hag] at hok
        cases hxs : xs.drop off with
        | nil => simp [hxs, fitsL] at hx
        | cons x xr =>
          cases hys : ys.drop off with
          | nil => simp [hys, fitsL] at hy
          | cons y yr =>
            simp only [hxs, hys, fitsL, Bool.and_eq_true] at hx hy
            have ex : xs[off]? = some x := by have := congrArg List.head? hxs; simpa [List.head?_drop] using this
            have ey : ys[off]? = some y := by have := congrArg List.head? hys; simpa [List.head?_drop] using this
            have dx : xs.drop (off + 1) = xr := by have := congrArg List.tail hxs; simpa [List.tail_drop] using this
            have dy : ys.drop (off + 1) = yr := by have := congrArg List.tail hys; simpa [List.tail_drop] using this
            simp only [wpS_part hag, partOf, hc.2, ex, ey, XLd, hok l rfl x y hx.1 hy.1, eqL]
            rcases Bool.eq_false_or_eq_true (eqV x y) with hv | hv
            rotate_left
            · simp [hv, wpS_pure]
            · simp only [hv, Bool.true_and]
              rw [ih (off + 1) ls' hls' (by rw [dx]; exact hx.2) (by rw [dy]; exact hy.2), dx, dy]
      · rename_i ls0 n hl hag
        split at h
        · rename_i hn
          simp only [Option.map_eq_some_iff] at h
          obtain ⟨ls', hls', rfl⟩ := h
          have hok := hf _ _ hl
          simp only [EqOK, hag] at hok
          have fx := fitsL_append _ _ _ hx
          have fy := fitsL_append _ _ _ hy
          have lx := fitsL_length _ _ hx
          have ly := fitsL_length _ _ hy
          have dx : xs.drop (off + n) = (xs.drop off).drop n := by rw [List.drop_drop]
          have dy : ys.drop (off + n) = (ys.drop off).drop n := by rw [List.drop_drop]
          rw [hn] at fx fy
          simp only [wpS_part hag, partOf, hc.2, XLd, hok.2 _ _ fx.1 fy.1]
          have key := eqL_append n (xs.drop off) (ys.drop off) (by rw [lx, ly]) (by rw [lx]; simp; omega)
          rcases Bool.eq_false_or_eq_true (eqL ((xs.drop off).take n) ((ys.drop off).take n)) with hv | hv
          rotate_left
          · have hv' := hv
            rw [hv'] at key; simp [hv', wpS_pure, ← key]
          · rw [hv, Bool.true_and] at key
            simp only [hv]
            rw [ih (off + n) ls' hls' (by rw [dx]; exact fx.2) (by rw [dy]; exact fy.2), dx, dy, key]
        · cases h
      · cases h
    · cases h
theorem eqOK_leaves : ∀ (d : Nat) (t : TypeId) (ls : List Leaf), leaves P d t = some ls → EqOK P dt d t ls := by
  intro d
  induction d with
  | zero => intro t ls h; cases h
  | succ d ih =>
    intro t ls h
    simp only [leaves] at h
    unfold EqOK
    split at h
    · rename_i hu
      cases h
      have : aggSize P t = some none := by simp [aggSize, hu]
      simp only [this]
      intro l hl x y hx hy s K
      cases hl
      cases x <;> simp [leafOk] at hx
      cases y <;> simp [leafOk] at hy
      simp only [Op.equalIn, wpS_bind', wpS_underlying _ hu, wpS_pure, eqV]
    · rename_i k hu
      cases h
      have : aggSize P t = some none := by simp [aggSize, hu]
      simp only [this]
      intro l hl x y hx hy s K
      cases hl
      cases x <;> simp [leafOk] at hx
      cases y <;> simp [leafOk] at hy
      subst hx; subst hy
      simp only [Op.equalIn, wpS_bind', wpS_underlying _ hu, if_true, wpS_pure, eqV]
    · rename_i hu
      cases h
      have : aggSize P t = some none := by simp [aggSize, hu]
      simp only [this]
      intro l hl x y hx hy s K
      cases hl
      cases x <;> simp [leafOk] at hx
      cases y <;> simp [leafOk] at hy
      simp only [Op.equalIn, wpS_bind', wpS_underlying _ hu, wpS_pure, eqV]
      congr 1
      rename_i a b
      exact ba_beq a b
    · rename_i fs hu
      split at h
      · cases h
      · rename_i hst
        split at h
        · rename_i ls' n hfl hag
          split at h
          · rename_i hn
            cases h
            simp only [hag]
            refine ⟨hn, fun xs ys hx hy s K => ?_⟩
            have hst' : P.stoodInHeld t = false := by simpa using hst
            simp only [Op.equalIn, wpS_bind', wpS_underlying _ hu, wpS_program, hst', Bool.false_eq_true, if_false]
            rw [← Array.forIn_toList]
            refine (wpS_fields (dt := dt) ih xs ys _ ?_ fs.toList 0 ls hfl (by simpa using hx) (by simpa using hy) s _).trans ?_
            · intro fd r hne s K
              simp only [if_pos hne, wpS_bind']
              refine congrArg (fun k => wpS P dt _ s k) ?_
              funext a s; refine congrArg (fun k => wpS P dt _ s k) ?_
              funext b s; refine congrArg (fun k => wpS P dt _ s k) ?_
              funext c s; cases c <;> simp [wpS_pure]
            · simp only [List.drop_zero]
              cases hv : eqL xs ys <;> simp [wpS_pure]
          · cases h
        · cases h
    · cases h

inductive EqK where
  | bool
  | ptr
  | iface
  | slice
  | func
  | flat (ls : List Leaf)
  | other
def eqK (P : Program) (t : TypeId) : EqK := match P.underlying t with
  | some .bool => .bool
  | some (.pointer e) => match P.info? e with | some i => if i.size ≠ 0 then .ptr else .other | none => .other
  | some (.interface _) => .iface
  | some (.slice _) => .slice
  | some (.func _ _ _) => .func
  | some (.struct _) => match aggSize P t, leaves P Op.maxDepth t with | some (some _), some ls => if P.eqGuardType P.depth t = false then .flat ls else .other | _, _ => .other
  | _ => .other
def opOf (neg b : Bool) : Bool := if neg then !b else b
@[go_sem] theorem opOf_f (b : Bool) : opOf false b = b := rfl
@[go_sem] theorem opOf_t (b : Bool) : opOf true b = !b := rfl
theorem eqK_flat {t : TypeId} {ls : List Leaf} (h : eqK P t = .flat ls) : leaves P Op.maxDepth t = some ls ∧ P.eqGuardType P.depth t = false ∧ ∃ n, aggSize P t = some (some n) := by
  unfold eqK at h
  split at h <;> try (cases h; done)
  · split at h
    · split at h <;> cases h
    · cases h
  · split at h
    · rename_i n ls' ha hl
      split at h
      · rename_i hg; cases h; exact ⟨hl, hg, _, ha⟩
      · cases h
    · cases h

/-- as it stands -/
def XRaw (P : Program) (dt : Bool) (op : BinOp) (t : TypeId) (x y : Operand) (a b : Value) (s : St) (K : Kp (Value → St → Prop)) : Prop := XBin P dt op t x y a b s K
theorem XBin_gen {op : BinOp} (neg : Bool) {t : TypeId} {x y : Operand} {a b : Value} {r : Bool} (hbin : binOp op t a b = do let e ← Op.equal t a b; pure (.bool (opOf neg e)))
    (hg : ∀ (s : St) (K : Unit → St → Prop), wpS P dt (eqGuard op t x y a b) s K = K () s) (he : ∀ (s : St) (K : Bool → St → Prop), wpS P dt (Op.equal t a b) s K = K r s) :
    XBin P dt op t x y a b s K = K (.bool (opOf neg r)) s := by
  simp only [XBin, wpS_bind', hg, hbin, he, wpS_pure]
theorem equal_unfold (t : TypeId) (a b : Value) : Op.equal t a b = Op.equalIn (9999 + 1) t a b := rfl
def XEqB (P : Program) (dt : Bool) (k : EqK) (op : BinOp) (neg : Bool) (t : TypeId) (x y : Operand) (a b : Bool) (s : St) (K : Kp (Value → St → Prop)) : Prop := match k with
  | .bool => K (.bool (opOf neg (a == b))) s
  | _ => XRaw P dt op t x y (.bool a) (.bool b) s K
@[go_sem] theorem XEqB_bool (op : BinOp) (neg : Bool) (t : TypeId) (x y : Operand) (a b : Bool) : XEqB P dt .bool op neg t x y a b s K = K (.bool (opOf neg (a == b))) s := rfl
theorem eqK_bool {t : TypeId} (h : eqK P t = .bool) : P.underlying t = some .bool := by
  unfold eqK at h
  split at h <;> first | assumption | (cases h; done) | (split at h <;> first | (cases h; done) | (split at h <;> cases h))
theorem eqK_iface {t : TypeId} (h : eqK P t = .iface) : ∃ ms, P.underlying t = some (.interface ms) := by
  unfold eqK at h
  split at h <;> first | exact ⟨_, by assumption⟩ | (cases h; done) | (split at h <;> first | (cases h; done) | (split at h <;> cases h))
theorem eqK_slice {t : TypeId} (h : eqK P t = .slice) : ∃ e, P.underlying t = some (.slice e) := by
  unfold eqK at h
  split at h <;> first | exact ⟨_, by assumption⟩ | (cases h; done) | (split at h <;> first | (cases h; done) | (split at h <;> cases h))
theorem eqK_func {t : TypeId} (h : eqK P t = .func) : ∃ a b c, P.underlying t = some (.func a b c) := by
  unfold eqK at h
  split at h <;> first | exact ⟨_, _, _, by assumption⟩ | (cases h; done) | (split at h <;> first | (cases h; done) | (split at h <;> cases h))
theorem eqK_ptr {t : TypeId} (h : eqK P t = .ptr) : ∃ e, P.underlying t = some (.pointer e) := by
  unfold eqK at h
  split at h <;> first | exact ⟨_, by assumption⟩ | (cases h; done) | (split at h <;> first | (cases h; done) | (split at h <;> cases h))
theorem eqIn_bool {t : TypeId} (hu : P.underlying t = some .bool) (d : Nat) (a b : Bool) (s : St) (K : Bool → St → Prop) : wpS P dt (Op.equalIn (d + 1) t (.bool a) (.bool b)) s K = K (a == b) s := by
  simp only [Op.equalIn, wpS_bind', wpS_underlying _ hu, wpS_pure]
theorem XBin_eqb (op : BinOp) (neg : Bool) (ho : op = if neg then .neq else .eql) (t : TypeId) (x y : Operand) (a b : Bool) : XBin P dt op t x y (.bool a) (.bool b) s K = XEqB P dt (eqK P t) op neg t x y a b s K := by
  unfold XEqB
  split
  · rename_i hk
    exact XBin_gen neg (by subst ho; cases neg <;> rfl) (fun s K => by subst ho; cases neg <;> rfl) (fun s K => eqIn_bool (eqK_bool hk) 9999 a b s K)
  · rfl
@[go_sem] theorem XBin_eql_bool (t : TypeId) (x y : Operand) (a b : Bool) : XBin P dt .eql t x y (.bool a) (.bool b) s K = XEqB P dt (eqK P t) .eql false t x y a b s K := XBin_eqb .eql false rfl _ _ _ _ _
@[go_sem] theorem XBin_neq_bool (t : TypeId) (x y : Operand) (a b : Bool) : XBin P dt .neq t x y (.bool a) (.bool b) s K = XEqB P dt (eqK P t) .neq true t x y a b s K := XBin_eqb .neq true rfl _ _ _ _ _
/-- against nil -/
def isNilV : Value → Option Bool
  | .pointer none => some true | .pointer (some _) => some false
  | .nilIface => some true | .iface _ _ => some false
  | .slice none _ _ => some true | .slice (some _) _ _ => some false
  | .nilFunc => some true | .func _ _ _ => some false
  | _ => none
def kindV : EqK → Value → Bool
  | .ptr, .pointer _ => true
  | .iface, .nilIface => true | .iface, .iface _ _ => true
  | .slice, .slice _ _ _ => true
  | .func, .nilFunc => true | .func, .func _ _ _ => true
  | _, _ => false
theorem eqIn_nil {t : TypeId} (d : Nat) (a b : Value) (na nb : Bool) (ha : isNilV a = some na) (hb : isNilV b = some nb)
    (hk : kindV (eqK P t) a = true) (hk' : kindV (eqK P t) b = true) (hc : na = true ∨ nb = true) (s : St) (K : Bool → St → Prop) : wpS P dt (Op.equalIn (d + 1) t a b) s K = K (na && nb) s := by
  cases hkk : eqK P t with
  | ptr =>
    rw [hkk] at hk hk'
    obtain ⟨e, hu⟩ := eqK_ptr hkk
    cases a <;> simp [kindV] at hk
    cases b <;> simp [kindV] at hk'
    rename_i p q
    cases p <;> cases q <;> simp [isNilV] at ha hb <;> subst ha <;> subst hb <;> first | (simp at hc; done) | simp only [Op.equalIn, wpS_bind', wpS_underlying _ hu, wpS_pure, Option.isNone, Bool.and_true, Bool.and_false, Bool.and_self]
  | slice =>
    rw [hkk] at hk hk'
    obtain ⟨e, hu⟩ := eqK_slice hkk
    cases a <;> simp [kindV] at hk
    cases b <;> simp [kindV] at hk'
    rename_i p _ _ q _ _
    cases p <;> cases q <;> simp [isNilV] at ha hb <;> subst ha <;> subst hb <;> first | (simp at hc; done) | simp only [Op.equalIn, wpS_bind', wpS_underlying _ hu, wpS_pure, Option.isNone, Bool.and_true, Bool.and_false, Bool.and_self]
  | func =>
    rw [hkk] at hk hk'
    obtain ⟨_, _, _, hu⟩ := eqK_func hkk
    cases a <;> simp [kindV] at hk <;> cases b <;> simp [kindV] at hk' <;> simp [isNilV] at ha hb <;> subst ha <;> subst hb <;> first | (simp at hc; done) | simp only [Op.equalIn, wpS_bind', wpS_underlying _ hu, wpS_pure, Bool.and_true, Bool.and_false, Bool.and_self]
  | iface =>
    rw [hkk] at hk hk'
    obtain ⟨ms, hu⟩ := eqK_iface hkk
    cases a <;> simp [kindV] at hk <;> cases b <;> simp [kindV] at hk' <;> simp [isNilV] at ha hb <;> subst ha <;> subst hb <;> first | (simp at hc; done) | simp only [Op.equalIn, wpS_bind', wpS_underlying _ hu, wpS_pure, Bool.and_true, Bool.and_false, Bool.and_self]
  | _ => rw [hkk] at hk; simp [kindV] at hk
def boolOp (neg : Bool) : BinOp := if neg then .neq else .eql
theorem guard_ptr (neg : Bool) (t : TypeId) (x y : Operand) (a b : Option Addr) (s : St) (K : Unit → St → Prop) : wpS P dt (eqGuard (boolOp neg) t x y (.pointer a) (.pointer b)) s K = K () s := by cases neg <;> rfl
theorem bin_ptr (neg : Bool) (t : TypeId) (a b : Option Addr) : binOp (boolOp neg) t (.pointer a) (.pointer b) = (do let e ← Op.equal t (.pointer a) (.pointer b); pure (.bool (opOf neg e))) := by cases neg <;> rfl
def XEqN (P : Program) (dt : Bool) (k : EqK) (neg : Bool) (t : TypeId) (x y : Operand) (a b : Value) (s : St) (K : Kp (Value → St → Prop)) : Prop := match isNilV a, isNilV b with
  | some na, some nb => if (kindV k a && kindV k b && (na || nb) && (isConst x || isConst y)) = true then K (.bool (opOf neg (na && nb))) s else XRaw P dt (boolOp neg) t x y a b s K
  | _, _ => XRaw P dt (boolOp neg) t x y a b s K
theorem XEqN_gen (neg : Bool) (t : TypeId) (x y : Operand) (a b : Value) (hb : binOp (boolOp neg) t a b = (do let e ← Op.equal t a b; pure (.bool (opOf neg e))))
    (hg : (isConst x || isConst y) = true → ∀ (s : St) (K : Unit → St → Prop), wpS P dt (eqGuard (boolOp neg) t x y a b) s K = K () s) : XBin P dt (boolOp neg) t x y a b s K = XEqN P dt (eqK P t) neg t x y a b s K := by
  unfold XEqN
  split
  · rename_i na nb ha hb'
    split
    · rename_i h
      simp only [Bool.and_eq_true, Bool.or_eq_true] at h
      exact XBin_gen neg hb (hg (by simpa using h.2)) (fun s K => eqIn_nil 9999 a b na nb ha hb' h.1.1.1 h.1.1.2 (by simpa using h.1.2) s K)
    · rfl
  · rfl
@[go_sem] theorem XEqN_eval (k : EqK) (neg : Bool) (t : TypeId) (x y : Operand) (a b : Value) : XEqN P dt k neg t x y a b s K = match isNilV a, isNilV b with
  | some na, some nb => if (kindV k a && kindV k b && (na || nb) && (isConst x || isConst y)) = true then K (.bool (opOf neg (na && nb))) s else XRaw P dt (boolOp neg) t x y a b s K
  | _, _ => XRaw P dt (boolOp neg) t x y a b s K := rfl
@[go_sem] theorem XBin_eql_ptr (t : TypeId) (x y : Operand) (p q : Option Addr) : XBin P dt .eql t x y (.pointer p) (.pointer q) s K = XEqN P dt (eqK P t) false t x y (.pointer p) (.pointer q) s K := XEqN_gen false t x y _ _ rfl (fun _ s K => rfl)
@[go_sem] theorem XBin_neq_ptr (t : TypeId) (x y : Operand) (p q : Option Addr) : XBin P dt .neq t x y (.pointer p) (.pointer q) s K = XEqN P dt (eqK P t) true t x y (.pointer p) (.pointer q) s K := XEqN_gen true t x y _ _ rfl (fun _ s K => rfl)
@[go_sem] theorem XBin_eql_sl (t : TypeId) (x y : Operand) (p q : Option Addr) (n c n' c' : Nat) : XBin P dt .eql t x y (.slice p n c) (.slice q n' c') s K = XEqN P dt (eqK P t) false t x y (.slice p n c) (.slice q n' c') s K := XEqN_gen false t x y _ _ rfl (fun _ s K => rfl)
@[go_sem] theorem XBin_neq_sl (t : TypeId) (x y : Operand) (p q : Option Addr) (n c n' c' : Nat) : XBin P dt .neq t x y (.slice p n c) (.slice q n' c') s K = XEqN P dt (eqK P t) true t x y (.slice p n c) (.slice q n' c') s K := XEqN_gen true t x y _ _ rfl (fun _ s K => rfl)
@[go_sem] theorem XBin_eql_nn (t : TypeId) (x y : Operand)  : XBin P dt .eql t x y (.nilIface) (.nilIface) s K = XEqN P dt (eqK P t) false t x y (.nilIface) (.nilIface) s K := XEqN_gen false t x y _ _ rfl (fun h s K => by simp only [boolOp, eqGuard]; cases x <;> cases y <;> first | rfl | exact Bool.noConfusion (show false = true from h))
@[go_sem] theorem XBin_neq_nn (t : TypeId) (x y : Operand)  : XBin P dt .neq t x y (.nilIface) (.nilIface) s K = XEqN P dt (eqK P t) true t x y (.nilIface) (.nilIface) s K := XEqN_gen true t x y _ _ rfl (fun h s K => by simp only [boolOp, eqGuard]; cases x <;> cases y <;> first | rfl | exact Bool.noConfusion (show false = true from h))
@[go_sem] theorem XBin_eql_ni (t : TypeId) (x y : Operand) (i : TypeId) (v : Value) : XBin P dt .eql t x y (.nilIface) (.iface i v) s K = XEqN P dt (eqK P t) false t x y (.nilIface) (.iface i v) s K := XEqN_gen false t x y _ _ rfl (fun _ s K => rfl)
@[go_sem] theorem XBin_neq_ni (t : TypeId) (x y : Operand) (i : TypeId) (v : Value) : XBin P dt .neq t x y (.nilIface) (.iface i v) s K = XEqN P dt (eqK P t) true t x y (.nilIface) (.iface i v) s K := XEqN_gen true t x y _ _ rfl (fun _ s K => rfl)
@[go_sem] theorem XBin_eql_inn (t : TypeId) (x y : Operand) (i : TypeId) (v : Value) : XBin P dt .eql t x y (.iface i v) (.nilIface) s K = XEqN P dt (eqK P t) false t x y (.iface i v) (.nilIface) s K := XEqN_gen false t x y _ _ rfl (fun _ s K => rfl)
@[go_sem] theorem XBin_neq_inn (t : TypeId) (x y : Operand) (i : TypeId) (v : Value) : XBin P dt .neq t x y (.iface i v) (.nilIface) s K = XEqN P dt (eqK P t) true t x y (.iface i v) (.nilIface) s K := XEqN_gen true t x y _ _ rfl (fun _ s K => rfl)
@[go_sem] theorem XBin_eql_fn (t : TypeId) (x y : Operand) (f : Fn) (u v : Array Value) : XBin P dt .eql t x y (.func f u v) (.nilFunc) s K = XEqN P dt (eqK P t) false t x y (.func f u v) (.nilFunc) s K := XEqN_gen false t x y _ _ rfl (fun _ s K => rfl)
@[go_sem] theorem XBin_neq_fn (t : TypeId) (x y : Operand) (f : Fn) (u v : Array Value) : XBin P dt .neq t x y (.func f u v) (.nilFunc) s K = XEqN P dt (eqK P t) true t x y (.func f u v) (.nilFunc) s K := XEqN_gen true t x y _ _ rfl (fun _ s K => rfl)
@[go_sem] theorem XBin_eql_nf (t : TypeId) (x y : Operand) (f : Fn) (u v : Array Value) : XBin P dt .eql t x y (.nilFunc) (.func f u v) s K = XEqN P dt (eqK P t) false t x y (.nilFunc) (.func f u v) s K := XEqN_gen false t x y _ _ rfl (fun _ s K => rfl)
@[go_sem] theorem XBin_neq_nf (t : TypeId) (x y : Operand) (f : Fn) (u v : Array Value) : XBin P dt .neq t x y (.nilFunc) (.func f u v) s K = XEqN P dt (eqK P t) true t x y (.nilFunc) (.func f u v) s K := XEqN_gen true t x y _ _ rfl (fun _ s K => rfl)
@[go_sem] theorem XBin_eql_ff (t : TypeId) (x y : Operand)  : XBin P dt .eql t x y (.nilFunc) (.nilFunc) s K = XEqN P dt (eqK P t) false t x y (.nilFunc) (.nilFunc) s K := XEqN_gen false t x y _ _ rfl (fun _ s K => rfl)
@[go_sem] theorem XBin_neq_ff (t : TypeId) (x y : Operand)  : XBin P dt .neq t x y (.nilFunc) (.nilFunc) s K = XEqN P dt (eqK P t) true t x y (.nilFunc) (.nilFunc) s K := XEqN_gen true t x y _ _ rfl (fun _ s K => rfl)
end
end Go.Proofs.TX
