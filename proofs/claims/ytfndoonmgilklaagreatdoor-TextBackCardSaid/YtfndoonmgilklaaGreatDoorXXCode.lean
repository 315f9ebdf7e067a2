/- The executor over code. -/
import Derived.Test.YtfndoonmgilklaaGreatDoorXDraw
set_option linter.unusedVariables false
namespace Go.Proofs.TX
open Go

/-! ### code -/
def WP (P : Program) (B : Env P) (r : Option Nat) (n : Nat) (c : Code) (fr : Fr) (s : St) (Q : Kp (Exit → Fr → St → Prop)) : Prop :=
  ∀ a w, Fits n a fr → Sat B.B w s → c.wpIn (FW r) 0 P (fun e a' w' => ∃ fr' s', Fits n a' fr' ∧ Sat B.B w' s' ∧ Q.K e fr' s') a w

section
variable {P : Program} {B : Env P} {ops : Array Oper} {n : Nat} {r : Option Nat}
/-- the rule -/
theorem WP_draw {id : Nat} {fr : Fr} {s : St} {Q : Kp (Exit → Fr → St → Prop)} (plan : DPlan) (hm : P.follows .mixedOrders = true) (hok : okOps n ops = true) (hp : okPlan ops plan [] [] = true)
    (h : XPl P B ops plan fr s ⟨fun fr s => Q.K .normal fr s, .mk⟩) : WP P B r n (.region id ops true) fr s Q := by
  intro a w hf hs
  refine wpIn_region_any hm ?_
  refine plan_sound (r := r) (K := ⟨fun fr s => Q.K .normal fr s, .mk⟩) hok (fun a fr w s hf hs hk => ⟨fr, s, hf, hs, hk⟩) ops.size (Array.replicate ops.size false) (by simp) a _ fr hf plan [] [] fr s ?_ (hs.drew _) (by intro t d o ht; cases ht) hp h
  have hz : ∀ j, (Array.replicate ops.size false).getD j false = false := by
    intro j; rw [Array.getD_eq_getD_getElem?, Array.getElem?_replicate]; split <;> rfl
  refine ⟨by simp, ?_, ?_, ?_, ?_, rfl, fun _ _ => rfl, ?_, ?_⟩
  · intro j o _ h; rw [hz] at h; cases h
  · intro j h; rw [hz] at h; cases h
  · intro j h; cases h
  · intro j h; cases h
  · intro i o h; cases h
  · intro i oi h; cases h
end

def thenQ (K : Fr → St → Prop) (Q : Exit → Fr → St → Prop) : Exit → Fr → St → Prop
  | .normal, fr, s => K fr s
  | e, fr, s => Q e fr s
def blockQ (id : Nat) (Q : Exit → Fr → St → Prop) : Exit → Fr → St → Prop
  | .exit id', fr, s => if id' = id then Q .normal fr s else Q (.exit id') fr s
  | e, fr, s => Q e fr s
def Fr.know (fr : Fr) (c : Operand) (b : Bool) : Fr := match c with
  | .tmp t => fr.set t (.bool b)
  | _ => fr
def XC (v : Value) (A A' : Kp (Unit → Prop)) : Prop := match v with
  | .bool b => (b = true → A.K ()) ∧ (b = false → A'.K ())
  | _ => False

def X (P : Program) (B : Env P) (r : Option Nat) (n : Nat) (pl : Nat → Option DPlan) : Code → Fr → St → Kp (Exit → Fr → St → Prop) → Prop
  | .skip, fr, s, Q => Q.K .normal fr s
  | .region id ops true, fr, s, Q => match pl id with
    | some p => XPl P B ops p fr s ⟨fun fr s => Q.K .normal fr s, .mk⟩
    | none => WP P B r n (.region id ops true) fr s Q
  | .region _ ops false, fr, s, Q => XOps P B ops ops.toList fr s ⟨fun fr s => Q.K .normal fr s, .mk⟩
  | .seq a b, fr, s, Q => X P B r n pl a fr s ⟨thenQ (fun fr s => X P B r n pl b fr s Q) Q.K, .mk⟩
  | .cond c x y, fr, s, Q => XC (fr.eval c) ⟨fun _ => X P B r n pl x (fr.know c true) s Q, .mk⟩ ⟨fun _ => X P B r n pl y (fr.know c false) s Q, .mk⟩
  | .block id c, fr, s, Q => X P B r n pl c fr s ⟨blockQ id Q.K, .mk⟩
  | .exit id, fr, s, Q => Q.K (.exit id) fr s
  | .ret, fr, s, Q => Q.K .ret fr s
  | .label _, fr, s, Q => Q.K .normal fr s
  | .goto l, fr, s, Q => Q.K (.goto l) fr s
  | c, fr, s, Q => WP P B r n c fr s Q

def codeOk (n : Nat) (pl : Nat → Option DPlan) : Code → Bool
  | .region id ops true => opsOk n ops.toList && match pl id with
    | some p => okOps n ops && okPlan ops p [] []
    | none => true
  | .region _ ops false => opsOk n ops.toList
  | .seq a b => codeOk n pl a && codeOk n pl b
  | .cond _ a b => codeOk n pl a && codeOk n pl b
  | .block _ c => codeOk n pl c
  | .loop c => codeOk n pl c
  | .scope c => codeOk n pl c
  | .rangeFunc _ _ a b => codeOk n pl a && codeOk n pl b
  | _ => true

theorem X_sound {P : Program} {B : Env P} {r : Option Nat} {n : Nat} {pl : Nat → Option DPlan} (hm : P.follows .mixedOrders = true) (c : Code) : codeOk n pl c = true → ∀ (fr : Fr) (s : St) (Q : Kp (Exit → Fr → St → Prop)), X P B r n pl c fr s Q → WP P B r n c fr s Q := by
  induction c with
  | skip => exact fun _ fr s Q h a w hf hs => wpIn_skip ⟨fr, s, hf, hs, h⟩
  | region id ops draw =>
    intro hc fr s Q h
    cases draw with
    | true =>
      simp only [X] at h
      simp only [codeOk, Bool.and_eq_true] at hc
      split at h
      · rename_i p hp
        simp only [hp, Bool.and_eq_true] at hc
        exact WP_draw p hm hc.2.1 hc.2.2 h
      · exact h
    | false =>
      intro a w hf hs
      refine wpIn_region ?_
      have := XOps_sound (P := P) (B := B) (r := r) (n := n) (ops := ops) (K := ⟨fun fr s => Q.K .normal fr s, .mk⟩) (Q := fun e a' w' => ∃ fr' s', Fits n a' fr' ∧ Sat B.B w' s' ∧ Q.K e fr' s')
        (fun a fr w s hf hs hk => ⟨fr, s, hf, hs, hk⟩) hc ops.toList 0 (by simp) fr s a w h hf hs
      rw [List.range_eq_range']
      simpa using this
  | seq x y ihx ihy =>
    intro hc fr s Q h a w hf hs
    simp only [codeOk, Bool.and_eq_true] at hc
    refine wpIn_seq (wpIn_mono (ihx hc.1 fr s _ h a w hf hs) ?_)
    rintro e a' w' ⟨fr', s', hf', hs', hq⟩
    cases e with
    | normal => exact ihy hc.2 fr' s' Q hq a' w' hf' hs'
    | _ => exact ⟨fr', s', hf', hs', hq⟩
  | cond c x y ihx ihy =>
    intro hc fr s Q h a w hf hs
    simp only [codeOk, Bool.and_eq_true] at hc
    simp only [X, XC] at h
    split at h
    · rename_i b hb
      have hev : a.eval c = .bool b := by rw [hf.eval]; exact hb
      have hkn : fr.know c b = fr := by
        cases c with
        | tmp t => exact Fr.set_self hb
        | _ => rfl
      refine wpIn_cond hev ?_
      cases b with
      | true => have h1 := h.1 rfl; rw [hkn] at h1; exact ihx hc.1 fr s Q h1 a w hf hs
      | false => have h1 := h.2 rfl; rw [hkn] at h1; exact ihy hc.2 fr s Q h1 a w hf hs
    · exact h.elim
  | block id c ih =>
    intro hc fr s Q h a w hf hs
    refine wpIn_block (wpIn_mono (ih hc fr s _ h a w hf hs) ?_)
    rintro e a' w' ⟨fr', s', hf', hs', hq⟩
    cases e with
    | exit id' =>
      simp only [Exit.inBlock, blockQ] at hq ⊢
      split
      · rw [if_pos (by assumption)] at hq; exact ⟨fr', s', hf', hs', hq⟩
      · rw [if_neg (by assumption)] at hq; exact ⟨fr', s', hf', hs', hq⟩
    | _ => exact ⟨fr', s', hf', hs', hq⟩
  | exit id => exact fun _ fr s Q h a w hf hs => wpIn_exit ⟨fr, s, hf, hs, h⟩
  | ret => exact fun _ fr s Q h a w hf hs => wpIn_ret ⟨fr, s, hf, hs, h⟩
  | label l => exact fun _ fr s Q h a w hf hs => wpIn_label ⟨fr, s, hf, hs, h⟩
  | goto l => exact fun _ fr s Q h a w hf hs => wpIn_goto ⟨fr, s, hf, hs, h⟩
  | loop c => exact fun _ fr s Q h => h
  | rangeFunc => exact fun _ fr s Q h => h
  | scope => exact fun _ fr s Q h => h
  | refuse => exact fun _ fr s Q h => h

theorem WP.mono {P : Program} {B : Env P} {r : Option Nat} {n : Nat} {c : Code} {fr : Fr} {s : St} {Q Q' : Kp (Exit → Fr → St → Prop)} (h : WP P B r n c fr s Q) (hq : ∀ e fr s, Q.K e fr s → Q'.K e fr s) : WP P B r n c fr s Q' :=
  fun a w hf hs => wpIn_mono (h a w hf hs) fun _ _ _ ⟨fr', s', hf', hs', q⟩ => ⟨fr', s', hf', hs', hq _ _ _ q⟩

/-- a loop -/
theorem WP_loop {P : Program} {B : Env P} {r : Option Nat} {n : Nat} {pl : Nat → Option DPlan} {c : Code} {fr : Fr} {s : St} {Q : Kp (Exit → Fr → St → Prop)} (hm : P.follows .mixedOrders = true) (hc : codeOk n pl c = true)
    (I : Nat → Fr → St → Prop) (m : Nat) (h0 : I m fr s)
    (round : ∀ m fr s, I m fr s → X P B r n pl c fr s ⟨thenQ (fun fr' s' => ∃ m', m' < m ∧ I m' fr' s') Q.K, .mk⟩) : WP P B r n (.loop c) fr s Q := by
  intro a w hf hs b k cs hro hb hr
  suffices key : ∀ m fr s a w, Fits n a fr → Sat B.B w s → I m fr s →
      ∃ e a' w', (∃ fr' s', Fits n a' fr' ∧ Sat B.B w' s' ∧ Q.K e fr' s') ∧ ArrivesIn (Machine.fenced P (FW r)) P (lone (b.atR a (.code c :: .inLoop c :: k)) cs w) b k cs e a' w' by
    obtain ⟨e, a', w', hq, harr⟩ := key m fr s a w hf hs h0
    exact ⟨e, a', w', hq, .of_steps (.one (fenced_calm hb hr rfl) stepR_loop) harr⟩
  intro m
  induction m using Nat.strongRecOn with
  | _ m ih =>
    intro fr s a w hf hs hI
    obtain ⟨e, a₁, w₁, hq, harr⟩ := X_sound hm c hc fr s _ (round m fr s hI) a w hf hs b (.inLoop c :: k) cs hro hb hr
    obtain ⟨fr₁, s₁, hf₁, hs₁, hq⟩ := hq
    cases e with
    | normal =>
      obtain ⟨m', hlt, hI'⟩ := hq
      obtain ⟨e₂, a₂, w₂, hq₂, harr₂⟩ := ih m' hlt fr₁ s₁ a₁ w₁ hf₁ hs₁ hI'
      exact ⟨e₂, a₂, w₂, hq₂, .of_steps (StepsIn.trans harr (.one (fenced_calm hb hr rfl) stepR_inLoop)) harr₂⟩
    | exit id => exact ⟨_, a₁, w₁, ⟨fr₁, s₁, hf₁, hs₁, hq⟩, .pass (x := .inLoop c) rfl (fun _ _ => .inl (by simp)) harr⟩
    | goto l => exact ⟨_, a₁, w₁, ⟨fr₁, s₁, hf₁, hs₁, hq⟩, .pass (x := .inLoop c) rfl (fun _ _ => .inl (by simp)) harr⟩
    | ret => exact ⟨_, a₁, w₁, ⟨fr₁, s₁, hf₁, hs₁, hq⟩, .pass (x := .inLoop c) rfl (fun _ _ => .inl (by simp)) harr⟩
    | panic ch => exact ⟨_, a₁, w₁, ⟨fr₁, s₁, hf₁, hs₁, hq⟩, .pass (x := .inLoop c) rfl (fun _ _ => .inl (by simp)) harr⟩
    | outgrown => exact ⟨_, a₁, w₁, ⟨fr₁, s₁, hf₁, hs₁, hq⟩, .pass (x := .inLoop c) rfl (fun _ _ => .inl (by simp)) harr⟩

/-! ### calls -/
/-- reading alone: the world is not turned -/
def wpR (P : Program) {α : Type} : Sem α → St → (α → Prop) → Prop
  | .pure a, _, K => K a
  | .load _ a k, s, K => ∃ v, s.ld a = some v ∧ wpR P (k v) s K
  | .program k, s, K => wpR P (k P) s K
  | .mark _ k, s, K => wpR P k s K
  | _, _, _ => False
theorem wpR_sound {P : Program} {B : Env P} {α : Type} (m : Sem α) : ∀ (s : St) (w : World) (K : α → Prop), wpR P m s K → Sat B.B w s → ∃ a, m.run P w = .ok a w ∧ K a := by
  induction m with
  | pure a => exact fun s w K h hs => ⟨a, rfl, h⟩
  | load m a k ih =>
    rintro s w K ⟨v, hv, h⟩ hs
    obtain ⟨x, hr, hk⟩ := ih _ _ _ _ h hs
    exact ⟨x, by simp only [Sem.run, hs.ld hv]; exact hr, hk⟩
  | program k ih =>
    intro s w K h hs
    obtain ⟨x, hr, hk⟩ := ih _ _ _ _ h hs
    exact ⟨x, by simp only [Sem.run]; exact hr, hk⟩
  | mark m k ih =>
    intro s w K h hs
    obtain ⟨x, hr, hk⟩ := ih _ _ _ h hs
    exact ⟨x, by simp only [Sem.run]; exact hr, hk⟩
  | _ => exact fun s w K h hs => h.elim
theorem wpR_bind {P : Program} {α β : Type} (m : Sem α) (f : α → Sem β) : ∀ (s : St) (K : β → Prop), wpR P (m.bind f) s K = wpR P m s (fun a => wpR P (f a) s K) := by
  induction m with
  | pure a => intros; rfl
  | load m a k ih => intros; simp only [Sem.bind, wpR, ih]
  | program k ih => intros; simp only [Sem.bind, wpR, ih]
  | mark m k ih => intros; simp only [Sem.bind, wpR, ih]
  | _ => intros; simp only [Sem.bind, wpR]

end Go.Proofs.TX
