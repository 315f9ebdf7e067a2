/- The abstract-state logic: a predicate transformer over the model's operations and code, on partial heaps. -/
import Derived.RangeFuncLeaves
import Derived.OrdersIn
import Derived.KernelRfl
namespace Go.Proofs.TX
open Go

/-! ### abstract states -/
abbrev PH := Nat → Option Obj
structure St where
  σ : PH
  h : PH
  n : Nat

/-- what a world must meet: the blocks that nobody writes any more (σ), and those that are owned (h); B: what never turns. -/
structure Sat (B w : World) (s : St) : Prop where
  os : w.os = B.os
  out : w.output = B.output
  tape : w.tape = B.tape
  size : w.heap.size = s.n
  ro : ∀ b o, s.σ b = some o → w.heap[b]? = some o
  own : ∀ b o, s.h b = some o → w.heap[b]? = some o
  dis : ∀ b o, s.h b = some o → s.σ b = none
  le : B.heap.size ≤ s.n
  ge : ∀ b o, s.h b = some o → B.heap.size ≤ b
  base : ∀ b, b < B.heap.size → w.heap[b]? = B.heap[b]?

def upd (h : PH) (b : Nat) (o : Obj) : PH := fun c => if c = b then some o else h c
def St.upd (s : St) (b : Nat) (o : Obj) : St := ⟨s.σ, TX.upd s.h b o, s.n⟩
/-- a new block -/
def St.new (s : St) (o : Obj) : St := ⟨s.σ, TX.upd s.h s.n o, s.n + 1⟩
/-- a block's object, whichever part it lies in -/
def St.at (s : St) (b : Nat) : Option Obj := match s.h b with | some o => some o | none => s.σ b
def cellOf (o : Option Obj) (a : Addr) : Option Value := match o with | some (.cells c _ _) => if a.spot.isSome then none else c[a.off]? | _ => none
def St.ld (s : St) (a : Addr) : Option Value := cellOf (s.at a.block) a

theorem Sat.at {B w : World} {s : St} (h : Sat B w s) {b : Nat} {o : Obj} (hb : s.at b = some o) : w.heap[b]? = some o := by
  unfold St.at at hb
  split at hb
  · rename_i o' ho; cases hb; exact h.own _ _ ho
  · exact h.ro _ _ hb
theorem Sat.ld {B w : World} {s : St} (h : Sat B w s) {a : Addr} {v : Value} (ha : s.ld a = some v) : w.cell? a = some v := by
  unfold St.ld cellOf at ha
  split at ha
  · rename_i c e fz ho
    have := h.at ho
    simp only [World.cell?, this]
    exact ha
  · cases ha
theorem Sat.drew {B w : World} {s : St} (h : Sat B w s) (n : Nat) : Sat B { w with drawn := n } s := ⟨h.os, h.out, h.tape, h.size, h.ro, h.own, h.dis, h.le, h.ge, h.base⟩
theorem Sat.lt {B w : World} {s : St} (h : Sat B w s) {b : Nat} {o : Obj} (hb : s.at b = some o) : b < w.heap.size := by
  have := h.at hb
  exact (Array.getElem?_eq_some_iff.1 this).1
theorem Sat.lt_σ {B w : World} {s : St} (h : Sat B w s) {b : Nat} {o : Obj} (hb : s.σ b = some o) : b < s.n := by
  rw [← h.size]; exact (Array.getElem?_eq_some_iff.1 (h.ro _ _ hb)).1
theorem Sat.lt_h {B w : World} {s : St} (h : Sat B w s) {b : Nat} {o : Obj} (hb : s.h b = some o) : b < s.n := by
  rw [← h.size]; exact (Array.getElem?_eq_some_iff.1 (h.own _ _ hb)).1
theorem Sat.push {B w : World} {s : St} (h : Sat B w s) (o : Obj) : Sat B { w with heap := w.heap.push o } (s.new o) := by
  refine ⟨h.os, h.out, h.tape, by simp [h.size, St.new], ?_, ?_, ?_, Nat.le_succ_of_le h.le, ?_, ?_⟩
  · intro b o' hb
    have hb' := h.ro b o' hb
    have hl := (Array.getElem?_eq_some_iff.1 hb').1
    simp only [Array.getElem?_push]
    rw [if_neg (by omega)]; exact hb'
  · intro b o' hb
    simp only [St.new, TX.upd] at hb
    simp only [Array.getElem?_push]
    split at hb
    · rename_i e; subst e; rw [if_pos h.size.symm]; exact hb
    · have hb' := h.own b o' hb
      have hl := (Array.getElem?_eq_some_iff.1 hb').1
      rw [if_neg (by omega)]; exact hb'
  · intro b o' hb
    simp only [St.new, TX.upd] at hb
    split at hb
    · rename_i e; subst e
      cases hx : (s.new o).σ s.n with
      | none => rfl
      | some x => have := h.lt_σ (show s.σ s.n = some x from hx); omega
    · exact h.dis b o' hb
  · intro b o' hb
    simp only [St.new, TX.upd] at hb
    split at hb
    · rename_i e; subst e; exact h.le
    · exact h.ge b o' hb
  · intro b hb
    have := h.le
    simp only [Array.getElem?_push]
    rw [if_neg (by rw [h.size]; omega)]; exact h.base b hb
theorem Sat.write {B w : World} {s : St} (h : Sat B w s) {b : Nat} {o0 : Obj} (hb : s.h b = some o0) (o : Obj) {w' : World}
    (hw : w'.heap = w.heap.setIfInBounds b o) (h1 : w'.os = w.os) (h2 : w'.output = w.output) (h3 : w'.tape = w.tape) : Sat B w' (s.upd b o) := by
  refine ⟨h1.trans h.os, h2.trans h.out, h3.trans h.tape, by rw [hw, Array.size_setIfInBounds]; exact h.size, ?_, ?_, ?_, h.le, ?_, ?_⟩
  · intro c o' hc
    have hne : b ≠ c := by rintro rfl; have := h.dis _ _ hb; have hc' : s.σ b = some o' := hc; rw [this] at hc'; cases hc'
    rw [hw, Array.getElem?_setIfInBounds, if_neg hne]; exact h.ro c o' hc
  · intro c o' hc
    simp only [St.upd, TX.upd] at hc
    rw [hw, Array.getElem?_setIfInBounds]
    split at hc
    · rename_i e; subst e
      have := h.own _ _ hb
      have hl := (Array.getElem?_eq_some_iff.1 this).1
      rw [if_pos rfl, if_pos hl]; exact hc
    · rename_i e; rw [if_neg (fun x => e x.symm)]; exact h.own c o' hc
  · intro c o' hc
    simp only [St.upd, TX.upd] at hc
    split at hc
    · rename_i e; subst e; exact h.dis _ _ hb
    · exact h.dis c o' hc
  · intro c o' hc
    simp only [St.upd, TX.upd] at hc
    split at hc
    · rename_i e; subst e; exact h.ge _ _ hb
    · exact h.ge c o' hc
  · intro c hc
    have := h.ge _ _ hb
    rw [hw, Array.getElem?_setIfInBounds, if_neg (by omega)]; exact h.base c hc

/-! ### the predicate transformer of an operation's meaning -/
def notCells : Obj → Bool
  | .cells .. => false
  | _ => true
def shapeOf : Obj → Option (TypeId × Nat)
  | .cells c e _ => some (e, c.size)
  | _ => none
def frozenOf : Obj → Addr → Bool
  | .cells _ _ (lo, hi), a => lo ≤ a.off && a.off < hi
  | _, _ => false
def oneCell : Value → Bool
  | .agg _ | .tuple _ => false
  | _ => true

def wpS (P : Program) (dt : Bool) {α : Type} : Sem α → St → (α → St → Prop) → Prop
  | .pure a, s, K => K a s
  | .load _ a k, s, K => ∃ v, s.ld a = some v ∧ wpS P dt (k v) s K
  | .store _ a v k, s, K => oneCell v = true ∧ ∃ c T, a.spot = none ∧ s.h a.block = some (.cells c T (0, 0)) ∧ a.off < c.size ∧ wpS P dt k (s.upd a.block (.cells (c.setIfInBounds a.off v) T (0, 0))) K
  | .new o k, s, K => wpS P dt (k s.n) (s.new o) K
  | .shape r k, s, K => ∃ o, s.at r = some o ∧ wpS P dt (k (shapeOf o)) s K
  | .freeze a n k, s, K => if n = 0 then wpS P dt k s K else ∃ c T lo hi, s.h a.block = some (.cells c T (lo, hi)) ∧
      wpS P dt k (s.upd a.block (.cells c T (if lo == hi then (a.off, a.off + n) else (min lo a.off, max hi (a.off + n))))) K
  | .frozen a k, s, K => ∃ o, s.at a.block = some o ∧ wpS P dt (k (frozenOf o a)) s K
  | .getObj r k, s, K => ∃ o, s.at r = some o ∧ notCells o = true ∧ wpS P dt (k o) s K
  | .setObj r o k, s, K => ∃ o0, s.h r = some o0 ∧ notCells o0 = true ∧ wpS P dt k (s.upd r o) K
  | .choose q k, s, K => (q.forced = true → wpS P dt (k 0) s K) ∧ (q.forced = false → dt = false ∧ ∀ t, wpS P dt (k (q.cut t)) s K)
  | .sys _ _, _, _ => False
  | .program k, s, K => wpS P dt (k P) s K
  | .mark _ k, s, K => wpS P dt k s K
  | .halt _, _, _ => False

theorem wpS_mono {P : Program} {dt : Bool} {α : Type} (m : Sem α) : ∀ (s : St) (K K' : α → St → Prop), (∀ a s, K a s → K' a s) → wpS P dt m s K → wpS P dt m s K' := by
  induction m with
  | pure a => exact fun s K K' hk h => hk _ _ h
  | load m a k ih => rintro s K K' hk ⟨v, hv, h⟩; exact ⟨v, hv, ih _ _ _ _ hk h⟩
  | store m a v k ih => rintro s K K' hk ⟨h1, c, T, h2, h3, h4, h⟩; exact ⟨h1, c, T, h2, h3, h4, ih _ _ _ hk h⟩
  | new o k ih => exact fun s K K' hk h => ih _ _ _ _ hk h
  | shape r k ih => rintro s K K' hk ⟨o, ho, h⟩; exact ⟨o, ho, ih _ _ _ _ hk h⟩
  | freeze a n k ih =>
    intro s K K' hk h
    simp only [wpS] at h ⊢
    split
    · rw [if_pos (by assumption)] at h; exact ih _ _ _ hk h
    · rw [if_neg (by assumption)] at h
      obtain ⟨c, T, lo, hi, h1, h2⟩ := h
      exact ⟨c, T, lo, hi, h1, ih _ _ _ hk h2⟩
  | frozen a k ih => rintro s K K' hk ⟨o, ho, h⟩; exact ⟨o, ho, ih _ _ _ _ hk h⟩
  | getObj r k ih => rintro s K K' hk ⟨o, ho, hc, h⟩; exact ⟨o, ho, hc, ih _ _ _ _ hk h⟩
  | setObj r o k ih => rintro s K K' hk ⟨o0, ho, hc, h⟩; exact ⟨o0, ho, hc, ih _ _ _ hk h⟩
  | choose q k ih => exact fun s K K' hk h => ⟨fun hf => ih _ _ _ _ hk (h.1 hf), fun hf => ⟨(h.2 hf).1, fun t => ih _ _ _ _ hk ((h.2 hf).2 t)⟩⟩
  | sys c k => exact fun s K K' hk h => h
  | program k ih => exact fun s K K' hk h => ih _ _ _ _ hk h
  | mark m k ih => exact fun s K K' hk h => ih _ _ _ hk h
  | halt h => exact fun s K K' hk h => h

theorem wpS_bind {P : Program} {dt : Bool} {α β : Type} (m : Sem α) (f : α → Sem β) : ∀ (s : St) (K : β → St → Prop), wpS P dt (m.bind f) s K = wpS P dt m s (fun a s => wpS P dt (f a) s K) := by
  induction m with
  | pure a => intros; rfl
  | load m a k ih => intros; simp only [Sem.bind, wpS, ih]
  | store m a v k ih => intros; simp only [Sem.bind, wpS, ih]
  | new o k ih => intros; simp only [Sem.bind, wpS, ih]
  | shape r k ih => intros; simp only [Sem.bind, wpS, ih]
  | freeze a n k ih => intros; simp only [Sem.bind, wpS, ih]
  | frozen a k ih => intros; simp only [Sem.bind, wpS, ih]
  | getObj r k ih => intros; simp only [Sem.bind, wpS, ih]
  | setObj r o k ih => intros; simp only [Sem.bind, wpS, ih]
  | choose q k ih => intros; simp only [Sem.bind, wpS, ih]
  | sys c k ih => intros; simp only [Sem.bind, wpS]
  | program k ih => intros; simp only [Sem.bind, wpS, ih]
  | mark m k ih => intros; simp only [Sem.bind, wpS, ih]
  | halt h => intros; simp only [Sem.bind, wpS]

theorem wpS_sound {P : Program} {dt : Bool} {B : World} {α : Type} (m : Sem α) : ∀ (s : St) (w : World) (K : α → St → Prop), wpS P dt m s K → Sat B w s →
    ∃ a w' s', m.run P w = .ok a w' ∧ Sat B w' s' ∧ K a s' := by
  induction m with
  | pure a => exact fun s w K h hs => ⟨a, w, s, rfl, hs, h⟩
  | load m a k ih =>
    rintro s w K ⟨v, hv, h⟩ hs
    obtain ⟨x, w', s', hr, hs', hk⟩ := ih _ _ _ _ h hs
    exact ⟨x, w', s', by simp only [Sem.run, hs.ld hv]; exact hr, hs', hk⟩
  | store m a v k ih =>
    rintro s w K ⟨h1, c, T, h2, h3, h4, h⟩ hs
    have hw := hs.own _ _ h3
    have hcell : w.cell? a = some c[a.off] := by simp [World.cell?, hw, h2, h4]
    have hfz : w.frozen? a = false := by simp [World.frozen?, hw]
    obtain ⟨x, w', s', hr, hs', hk⟩ := ih _ (w.setCell a v) _ h (hs.write h3 _ (by
      simp only [World.setCell]
      apply Array.ext_getElem?
      intro i
      rw [Array.getElem?_modify, Array.getElem?_setIfInBounds]
      split
      · rename_i e; subst e; rw [hw, if_pos ((Array.getElem?_eq_some_iff.1 hw).1)]; simp [h2]
      · rfl) rfl rfl rfl)
    refine ⟨x, w', s', ?_, hs', hk⟩
    cases v <;> first | (simp [oneCell] at h1; done) | (simp only [Sem.run, hcell, hfz]; exact hr)
  | new o k ih =>
    intro s w K h hs
    obtain ⟨x, w', s', hr, hs', hk⟩ := ih _ _ _ _ h (hs.push o)
    exact ⟨x, w', s', by simp only [Sem.run]; rw [hs.size]; exact hr, hs', hk⟩
  | shape r k ih =>
    rintro s w K ⟨o, ho, h⟩ hs
    obtain ⟨x, w', s', hr, hs', hk⟩ := ih _ _ _ _ h hs
    refine ⟨x, w', s', ?_, hs', hk⟩
    have hsh : w.shape? r = shapeOf o := by simp only [World.shape?, hs.at ho]; cases o <;> rfl
    simp only [Sem.run, hsh]; exact hr
  | freeze a n k ih =>
    intro s w K h hs
    simp only [wpS] at h
    split at h
    · rename_i hn
      obtain ⟨x, w', s', hr, hs', hk⟩ := ih _ _ _ h hs
      exact ⟨x, w', s', by simp only [Sem.run, World.freeze, hn, if_true]; exact hr, hs', hk⟩
    · rename_i hn
      obtain ⟨c, T, lo, hi, h1, h2⟩ := h
      have hw := hs.own _ _ h1
      obtain ⟨x, w', s', hr, hs', hk⟩ := ih _ (w.freeze a n) _ h2 (hs.write h1 _ (by
        simp only [World.freeze, hn, if_false]
        apply Array.ext_getElem?
        intro i
        rw [Array.getElem?_modify, Array.getElem?_setIfInBounds]
        split
        · rename_i e; subst e; rw [hw, if_pos ((Array.getElem?_eq_some_iff.1 hw).1)]; simp
        · rfl) (by simp only [World.freeze]; split <;> rfl) (by simp only [World.freeze]; split <;> rfl) (by simp only [World.freeze]; split <;> rfl))
      exact ⟨x, w', s', by simp only [Sem.run]; exact hr, hs', hk⟩
  | frozen a k ih =>
    rintro s w K ⟨o, ho, h⟩ hs
    obtain ⟨x, w', s', hr, hs', hk⟩ := ih _ _ _ _ h hs
    refine ⟨x, w', s', ?_, hs', hk⟩
    have hsh : w.frozen? a = frozenOf o a := by simp only [World.frozen?, hs.at ho]; cases o <;> rfl
    simp only [Sem.run, hsh]; exact hr
  | getObj r k ih =>
    rintro s w K ⟨o, ho, hc, h⟩ hs
    obtain ⟨x, w', s', hr, hs', hk⟩ := ih _ _ _ _ h hs
    refine ⟨x, w', s', ?_, hs', hk⟩
    simp only [Sem.run, hs.at ho]
    cases o <;> first | (simp [notCells] at hc; done) | exact hr
  | setObj r o k ih =>
    rintro s w K ⟨o0, ho, hc, h⟩ hs
    have hw := hs.own _ _ ho
    obtain ⟨x, w', s', hr, hs', hk⟩ := ih _ { w with heap := w.heap.setIfInBounds r o } _ h (hs.write ho o rfl rfl rfl rfl)
    refine ⟨x, w', s', ?_, hs', hk⟩
    simp only [Sem.run, hw]
    cases o0 <;> first | (simp [notCells] at hc; done) | exact hr
  | choose q k ih =>
    intro s w K h hs
    by_cases hf : q.forced = true
    · obtain ⟨x, w', s', hr, hs', hk⟩ := ih _ _ _ _ (h.1 hf) hs
      exact ⟨x, w', s', by simp only [Sem.run, hf, if_true]; exact hr, hs', hk⟩
    · have hf' : q.forced = false := by simpa using hf
      obtain ⟨x, w', s', hr, hs', hk⟩ := ih _ _ _ _ ((h.2 hf').2 (w.tape w.drawn q)) (hs.drew (w.drawn + 1))
      exact ⟨x, w', s', by simp only [Sem.run, hf']; exact hr, hs', hk⟩
  | sys c k => exact fun s w K h hs => h.elim
  | program k ih =>
    intro s w K h hs
    obtain ⟨x, w', s', hr, hs', hk⟩ := ih _ _ _ _ h hs
    exact ⟨x, w', s', by simp only [Sem.run]; exact hr, hs', hk⟩
  | mark m k ih =>
    intro s w K h hs
    obtain ⟨x, w', s', hr, hs', hk⟩ := ih _ _ _ h hs
    exact ⟨x, w', s', by simp only [Sem.run]; exact hr, hs', hk⟩
  | halt h => exact fun s w K h hs => h.elim

/-- what no choice hangs on: there is one outcome -/
theorem wpS_det {P : Program} {α : Type} (m : Sem α) : ∀ (s : St) (K : α → St → Prop), wpS P true m s K → ∃ a s', K a s' ∧ wpS P true m s (fun a' s'' => a' = a ∧ s'' = s') := by
  induction m with
  | pure a => exact fun s K h => ⟨a, s, h, rfl, rfl⟩
  | load m a k ih => rintro s K ⟨v, hv, h⟩; obtain ⟨x, s', hk, hw⟩ := ih _ _ _ h; exact ⟨x, s', hk, v, hv, hw⟩
  | store m a v k ih => rintro s K ⟨h1, c, T, h2, h3, h4, h⟩; obtain ⟨x, s', hk, hw⟩ := ih _ _ h; exact ⟨x, s', hk, h1, c, T, h2, h3, h4, hw⟩
  | new o k ih => intro s K h; exact ih _ _ _ h
  | shape r k ih => rintro s K ⟨o, ho, h⟩; obtain ⟨x, s', hk, hw⟩ := ih _ _ _ h; exact ⟨x, s', hk, o, ho, hw⟩
  | freeze a n k ih =>
    intro s K h
    simp only [wpS] at h ⊢
    split at h
    · rename_i hn; simp only [hn, if_true]; exact ih _ _ h
    · rename_i hn
      simp only [hn, if_false]
      obtain ⟨c, T, lo, hi, h1, h2⟩ := h
      obtain ⟨x, s', hk, hw⟩ := ih _ _ h2
      exact ⟨x, s', hk, c, T, lo, hi, h1, hw⟩
  | frozen a k ih => rintro s K ⟨o, ho, h⟩; obtain ⟨x, s', hk, hw⟩ := ih _ _ _ h; exact ⟨x, s', hk, o, ho, hw⟩
  | getObj r k ih => rintro s K ⟨o, ho, hc, h⟩; obtain ⟨x, s', hk, hw⟩ := ih _ _ _ h; exact ⟨x, s', hk, o, ho, hc, hw⟩
  | setObj r o k ih => rintro s K ⟨o0, ho, hc, h⟩; obtain ⟨x, s', hk, hw⟩ := ih _ _ h; exact ⟨x, s', hk, o0, ho, hc, hw⟩
  | choose q k ih =>
    intro s K h
    by_cases hf : q.forced = true
    · obtain ⟨x, s', hk, hw⟩ := ih _ _ _ (h.1 hf); exact ⟨x, s', hk, fun _ => hw, fun hf' => by simp [hf] at hf'⟩
    · have := (h.2 (by simpa using hf)).1; cases this
  | sys c k => exact fun s K h => h.elim
  | program k ih => exact fun s K h => ih _ _ _ h
  | mark m k ih => exact fun s K h => ih _ _ h
  | halt h => exact fun s K h => h.elim
end Go.Proofs.TX
/- The executor over code: a proposition computed from code, frame and abstract state, and its soundness. -/
namespace Go.Proofs.TX
open Go
set_option linter.unusedVariables false

def FW (r : Option Nat) : Fence := { Fence.wide with round := r }
theorem FW_room (r : Option Nat) (n : Nat) : (FW r).room n := fun _ h => by simp [FW, Fence.wide] at h

def CallOK (P : Program) (B : World) (f : FuncId) (args : Array Value) (s : St) (R : Value → St → Prop) : Prop :=
  ∀ w, Sat B w s → CallsIn Fence.wide 0 P f args w fun e w' => ∃ v s', e = .returned v ∧ Sat B w' s' ∧ R v s'
def RoundOK (P : Program) (B : World) (l : Nat) (f : FuncId) (tmps : Array Value) (assign body : Code) (s : St) (R : Value → St → Prop) : Prop :=
  ∀ w, Sat B w s → RoundIn Fence.wide 0 P l f tmps assign body w fun e w' => ∃ v s', e = .returned v ∧ Sat B w' s' ∧ R v s'

theorem CallOK.mono {P : Program} {B : World} {f : FuncId} {args : Array Value} {s : St} {R R' : Value → St → Prop} (h : CallOK P B f args s R)
    (hr : ∀ v s', R v s' → R' v s') : CallOK P B f args s R' := fun w hs => (h w hs).mono fun _ _ ⟨v, s', he, hs', hR⟩ => ⟨v, s', he, hs', hr _ _ hR⟩
theorem RoundOK.mono {P : Program} {B : World} {l : Nat} {f : FuncId} {tmps : Array Value} {assign body : Code} {s : St} {R R' : Value → St → Prop} (h : RoundOK P B l f tmps assign body s R)
    (hr : ∀ v s', R v s' → R' v s') : RoundOK P B l f tmps assign body s R' := fun w hs => (h w hs).mono fun _ _ ⟨v, s', he, hs', hR⟩ => ⟨v, s', he, hs', hr _ _ hR⟩

/-- a continuation that simp leaves alone -/
inductive Hold {α : Type} (a : α) : Type
  | mk
structure Kp (F : Type) where
  K : F
  hold : Hold K
theorem Kp.eta {F : Type} (K : Kp F) : (⟨K.K, .mk⟩ : Kp F) = K := by cases K; rename_i h; cases h; rfl

/-- what a call does -/
structure Spec where
  run : Array Value → St → Kp (Value → St → Prop) → Prop
  mono : ∀ args s K K', (∀ v s, K v s → K' v s) → run args s ⟨K, .mk⟩ → run args s ⟨K', .mk⟩
/-- blocks are laid, and that is all -/
def St.more (s : St) (n : Nat) : St := ⟨s.σ, s.h, n⟩
/-- a function that computes and lays blocks at most -/
def Spec.pure (F : Array Value → Option Value) : Spec where
  run args s K := match F args with
    | some v => ∀ k, K.K v (s.more (s.n + k))
    | none => False
  mono args s K K' h := by
    split
    · exact fun hk k => h _ _ (hk k)
    · exact id
/-- what must hold ahead, and what holds behind -/
def Spec.rel (pre : Array Value → St → Prop) (post : Array Value → St → Value → St → Prop) : Spec where
  run args s K := pre args s ∧ ∀ v s', post args s v s' → K.K v s'
  mono args s K K' h hk := ⟨hk.1, fun v s' hp => h _ _ (hk.2 v s' hp)⟩
/-- what the calls do: a table of specifications, each with its proof -/
structure Env (P : Program) where
  B : World
  ct : FuncId → Array Value → St → Kp (Value → St → Prop) → Prop
  ok : ∀ f args s K, ct f args s K → CallOK P B f args s K.K
  mono : ∀ f args s K K', (∀ v s, K v s → K' v s) → ct f args s ⟨K, .mk⟩ → ct f args s ⟨K', .mk⟩
def Env.base (P : Program) (B : World) : Env P := ⟨B, fun f args s K => CallOK P B f args s K.K, fun _ _ _ _ h => h, fun _ _ _ _ _ hk h => CallOK.mono h hk⟩
def Env.ext {P : Program} (E : Env P) (g : FuncId) (sp : Spec) (h : ∀ args s K, sp.run args s K → CallOK P E.B g args s K.K) : Env P :=
  ⟨E.B, fun f args s K => if f = g then sp.run args s K else E.ct f args s K, fun f args s K hh => by
    by_cases e : f = g
    · subst e; rw [if_pos rfl] at hh; exact h _ _ _ hh
    · rw [if_neg e] at hh; exact E.ok _ _ _ _ hh, fun f args s K K' hk hh => by
    by_cases e : f = g
    · subst e; rw [if_pos rfl] at hh ⊢; exact sp.mono _ _ _ _ hk hh
    · rw [if_neg e] at hh ⊢; exact E.mono _ _ _ _ _ hk hh⟩

def next (P : Program) (B : Env P) (dt : Bool) (K : Value → St → Prop) : Next → St → Prop
  | .value v, s => K v s
  | .skip, s => K undef s
  | .enter f args, s => dt = false ∧ B.ct f args s ⟨K, .mk⟩
  | .round l f tmps assign body, s => dt = false ∧ RoundOK P B.B l f tmps assign body s K
  | _, _ => False

def notDefer (o : Oper) : Bool := match o.op with | .defer _ => false | _ => true
def XOp (P : Program) (B : Env P) (dt : Bool) (ρ : Operand → Value) (o : Oper) (s : St) (K : Kp (Value → St → Prop)) : Prop :=
  notDefer o = true ∧ wpS P dt (execOp ρ o) s (next P B dt K.K)

theorem XOp_sound {P : Program} {dt : Bool} {B : Env P} {r : Option Nat} {a : Act} {w : World} {o : Oper} {s : St} {K : Kp (Value → St → Prop)} {Q : Exit → Act → World → Prop}
    (h : XOp P B dt a.eval o s K) (hs : Sat B.B w s) :
    o.wpIn (FW r) 0 P a w (fun a' w' => ∃ v s', a' = a.put o.dst v ∧ Sat B.B w' s' ∧ K.K v s') Q := by
  obtain ⟨hd, h⟩ := h
  refine ⟨fun _ _ => trivial, ?_⟩
  obtain ⟨x, w', s', hr, hs', hk⟩ := wpS_sound _ _ _ _ h hs
  have he : Oper.semAt (FW r).round a.eval o = execOp a.eval o := Oper.semAt_eq _ _ _ (by intro c hc; simp [notDefer, hc] at hd)
  rw [he, hr]
  cases x with
  | value v => exact ⟨v, s', rfl, hs', hk⟩
  | skip => exact ⟨undef, s', rfl, hs', hk⟩
  | enter f args =>
    refine ⟨fun hx => by simp [FW, Fence.wide] at hx, ?_⟩
    refine CallsIn.mono (show CallsIn (FW r) (0 - 1) P f args w' _ from B.ok _ _ _ _ hk.2 w' hs') ?_
    rintro e w'' ⟨v, s'', rfl, hs'', hR⟩
    exact ⟨v, s'', rfl, hs'', hR⟩
  | round l f tmps assign body =>
    refine ⟨fun hx => by simp [FW, Fence.wide] at hx, ?_⟩
    refine RoundIn.mono (show RoundIn (FW r) (0 - 1) P l f tmps assign body w' _ from hk.2 w' hs') ?_
    rintro e w'' ⟨v, s'', rfl, hs'', hR⟩
    exact ⟨v, s'', rfl, hs'', hR⟩
  | _ => exact hk.elim

/-! ### frames -/
structure Fr where
  ρ : Nat → Value
  ds : List Deferred
def Fr.eval (fr : Fr) : Operand → Value
  | .tmp t => fr.ρ t
  | .const v => v
  | .global g => .pointer (some ⟨g, 0, none⟩)
  | .func f => .func (.func f) #[] #[]
def Fr.set (fr : Fr) (d : Nat) (v : Value) : Fr := ⟨fun t => if t = d then v else fr.ρ t, fr.ds⟩
def Fr.put (fr : Fr) : Option Tmp → Value → Fr
  | some d, v => fr.set d v
  | none, _ => fr

structure Fits (n : Nat) (a : Act) (fr : Fr) : Prop where
  size : a.tmps.size = n
  defers : a.defers = fr.ds
  val : ∀ t, a.tmps.getD t undef = fr.ρ t

theorem Fits.eval {n : Nat} {a : Act} {fr : Fr} (h : Fits n a fr) : a.eval = fr.eval := by
  funext x
  cases x <;> simp only [Act.eval, Fr.eval]
  exact h.val _
def dstOk (n : Nat) : Option Tmp → Bool
  | some d => decide (d < n)
  | none => true
theorem Fits.put {n : Nat} {a : Act} {fr : Fr} (h : Fits n a fr) {d : Option Tmp} (hd : dstOk n d = true) (v : Value) : Fits n (a.put d v) (fr.put d v) := by
  cases d with
  | none => exact h
  | some d =>
    have hd' : d < n := by simpa [dstOk] using hd
    refine ⟨by simp [Act.put, h.size], by simp only [Act.put, Fr.put, Fr.set, h.defers], fun t => ?_⟩
    simp only [Act.put, Fr.put, Fr.set]
    rw [Array.getD_eq_getD_getElem?, Array.getElem?_setIfInBounds]
    by_cases e : t = d
    · subst e; simp [h.size, hd']
    · rw [if_neg (fun x => e x.symm), if_neg e, ← h.val t, Array.getD_eq_getD_getElem?]
theorem Fr.set_self {fr : Fr} {d : Nat} {v : Value} (h : fr.ρ d = v) : fr.set d v = fr := by
  cases fr; simp only [Fr.set, Fr.mk.injEq, and_true]; funext t; split
  · rename_i e; subst e; exact h.symm
  · rfl

/-! ### regions -/
def XG (v : Value) (want : Bool) (A A' A'' : Kp (Unit → Prop)) : Prop := match v with
  | .bool b => (b = want → A.K ()) ∧ (b = !want → A'.K ())
  | _ => A''.K ()
def XOps (P : Program) (B : Env P) (ops : Array Oper) : List Oper → Fr → St → Kp (Fr → St → Prop) → Prop
  | [], fr, s, K => K.K fr s
  | o :: rest, fr, s, K => match o.guard with
    | none => XOp P B false fr.eval o s ⟨fun v s' => XOps P B ops rest (fr.put o.dst v) s' K, .mk⟩
    | some (j, want) => match (ops[j]?).bind (·.dst) with
      | none => XOps P B ops rest (fr.put o.dst undef) s K
      | some d => XG (fr.ρ d) want
          ⟨fun _ => XOp P B false (fr.set d (.bool want)).eval o s ⟨fun v s' => XOps P B ops rest ((fr.set d (.bool want)).put o.dst v) s' K, .mk⟩, .mk⟩
          ⟨fun _ => XOps P B ops rest ((fr.set d (.bool (!want))).put o.dst undef) s K, .mk⟩
          ⟨fun _ => XOps P B ops rest (fr.put o.dst undef) s K, .mk⟩

def opsOk (n : Nat) (l : List Oper) : Bool := l.all fun o => dstOk n o.dst


theorem XOps_sound {P : Program} {B : Env P} {r : Option Nat} {n : Nat} {ops : Array Oper} {K : Kp (Fr → St → Prop)} {Q : Exit → Act → World → Prop}
    (hQ : ∀ a fr w s, Fits n a fr → Sat B.B w s → K.K fr s → Q .normal a w) (hall : opsOk n ops.toList = true) :
    ∀ (l : List Oper) (k : Nat), ops.toList.drop k = l → ∀ (fr : Fr) (s : St) (a : Act) (w : World), XOps P B ops l fr s K → Fits n a fr → Sat B.B w s →
      wpOpsIn (FW r) 0 P ops Q (List.range' k l.length) a w := by
  intro l
  induction l with
  | nil =>
    intro k hk fr s a w h hf hs
    simp only [List.length_nil, List.range'_zero, wpOpsIn]
    exact hQ _ _ _ _ hf hs h
  | cons o rest ih =>
    intro k hk fr s a w h hf hs
    have hk1 : ops[k]? = some o := by
      have := congrArg List.head? hk
      simpa [List.head?_drop] using this
    have hrest : ops.toList.drop (k + 1) = rest := by
      have := congrArg List.tail hk
      simpa [List.tail_drop] using this
    have hdst : ∀ (j : Nat) (o' : Oper), ops[j]? = some o' → dstOk n o'.dst = true := by
      intro j o' hj
      have := List.all_eq_true.1 hall o' (by
        have : ops.toList[j]? = some o' := by simpa using hj
        exact List.mem_of_getElem? this)
      exact this
    simp only [List.length_cons, List.range'_succ, wpOpsIn, hk1]
    simp only [XOps] at h
    have hstep : ∀ (fr1 : Fr), Fits n a fr1 → XOp P B false fr1.eval o s ⟨fun v s' => XOps P B ops rest (fr1.put o.dst v) s' K, .mk⟩ → o.wpIn (FW r) 0 P a w (wpOpsIn (FW r) 0 P ops Q (List.range' (k + 1) rest.length)) Q := by
      intro fr1 hf1 h1
      rw [← hf1.eval] at h1
      refine Oper.wpIn_mono ?_ (XOp_sound (r := r) (Q := Q) h1 hs)
      rintro a' w' ⟨v, s', rfl, hs', hk'⟩
      exact ih (k + 1) hrest _ _ _ _ hk' (hf1.put (hdst k o hk1) v) hs'
    cases hg : o.guard with
    | none =>
      rw [hg] at h
      have hw : Region.wanted o (yielded ops a.tmps) = true := by simp [Region.wanted, hg]
      rw [if_pos hw]
      exact hstep fr hf h
    | some jw =>
      obtain ⟨j, want⟩ := jw
      rw [hg] at h
      simp only at h
      have hskip : ∀ (fr1 : Fr), Fits n a fr1 → XOps P B ops rest (fr1.put o.dst undef) s K → wpOpsIn (FW r) 0 P ops Q (List.range' (k + 1) rest.length) (a.put o.dst undef) w :=
        fun fr1 hf1 h1 => ih (k + 1) hrest _ _ _ _ h1 (hf1.put (hdst k o hk1) undef) hs
      cases hd : (ops[j]?).bind (·.dst) with
      | none =>
        rw [hd] at h
        have hw : Region.wanted o (yielded ops a.tmps) = false := by simp [Region.wanted, hg, yielded, hd]
        rw [if_neg (by simp [hw])]
        exact ⟨fun _ _ => trivial, hskip fr hf h⟩
      | some d =>
        rw [hd] at h
        simp only [XG] at h
        have hdn : d < n := by
          cases hj : ops[j]? with
          | none => simp [hj] at hd
          | some o' =>
            have := hdst j o' hj
            simp only [hj, Option.bind_some] at hd
            rw [hd] at this
            simpa [dstOk] using this
        have hget : a.tmps[d]? = some (fr.ρ d) := by
          have := hf.val d
          rw [Array.getD_eq_getD_getElem?, Array.getElem?_eq_getElem (by rw [hf.size]; exact hdn)] at this
          rw [Array.getElem?_eq_getElem (by rw [hf.size]; exact hdn)]
          simpa using this
        have hy : Region.wanted o (yielded ops a.tmps) = (match fr.ρ d with | .bool b => b == want | _ => false) := by
          simp only [Region.wanted, hg, yielded, hd, Option.bind_some, hget]
          cases fr.ρ d <;> rfl
        cases hv : fr.ρ d with
        | bool b =>
          rw [hv] at h hy
          simp only at h hy
          by_cases hb : b = want
          · subst hb
            rw [if_pos (by simp [hy])]
            have hse := Fr.set_self hv
            have h1 := h.1 rfl
            rw [hse] at h1
            exact hstep fr hf h1
          · rw [if_neg (by simp [hy, hb])]
            have hb' : b = !want := by cases b <;> cases want <;> simp_all
            have hse := Fr.set_self hv
            have h1 := h.2 hb'
            rw [← hb', hse] at h1
            exact ⟨fun _ _ => trivial, hskip fr hf h1⟩
        | _ =>
          rw [hv] at h hy
          simp only at h hy
          rw [if_neg (by simp [hy])]
          exact ⟨fun _ _ => trivial, hskip fr hf h⟩

end Go.Proofs.TX
