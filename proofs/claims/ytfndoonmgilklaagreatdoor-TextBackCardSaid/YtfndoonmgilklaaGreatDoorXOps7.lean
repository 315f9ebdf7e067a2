/- What a state may forget; calls' ends; the rules with what is always so. -/
import Derived.Test.YtfndoonmgilklaaGreatDoorXOps6
set_option linter.unusedSimpArgs false
set_option linter.unusedVariables false
namespace Go.Proofs.TX
open Go
structure St.wf (s : St) : Prop where
  lt : ∀ b o, s.at b = some o → b < s.n
  dis : ∀ b o, s.h b = some o → s.σ b = none
theorem Sat.wf {B w : World} {s : St} (h : Sat B w s) : s.wf := ⟨fun b o hb => by rw [← h.size]; exact h.lt hb, h.dis⟩
theorem St.wf.lt_h {s : St} (h : s.wf) {b : Nat} {o : Obj} (hb : s.h b = some o) : b < s.n := h.lt b o (at_of_h hb)
theorem St.wf.lt_σ {s : St} (h : s.wf) {b : Nat} {o : Obj} (hb : s.σ b = some o) : b < s.n := by
  cases hh : s.h b with
  | some o' => exact h.lt_h hh
  | none => exact h.lt b o (by simp [St.at, hh, hb])
theorem St.wf.at_σ {s : St} (h : s.wf) {b : Nat} {o : Obj} (hb : s.σ b = some o) : s.at b = some o := by
  cases hh : s.h b with
  | some o' => rw [h.dis b o' hh] at hb; cases hb
  | none => simp [St.at, hh, hb]
/-- t says no more than s -/
structure Le (t s : St) : Prop where
  n : t.n = s.n
  σ : ∀ b o, t.σ b = some o → s.at b = some o
  h : ∀ b o, t.h b = some o → s.h b = some o
  dis : ∀ b o, t.h b = some o → t.σ b = none
theorem Sat.weak {B w : World} {s t : St} (h : Sat B w s) (hl : Le t s) : Sat B w t :=
  ⟨h.os, h.out, h.tape, h.size.trans hl.n.symm, fun b o hb => h.at (hl.σ b o hb), fun b o hb => h.own b o (hl.h b o hb), hl.dis, by rw [hl.n]; exact h.le, fun b o hb => h.ge b o (hl.h b o hb), h.base⟩
def Drop (R : Value → St → Prop) (v : Value) (s : St) : Prop := ∃ t, Le t s ∧ R v t
theorem CallOK.drop {P : Program} {B : World} {f : FuncId} {args : Array Value} {s : St} {R : Value → St → Prop} (h : s.wf → CallOK P B f args s (Drop R)) : CallOK P B f args s R := by
  intro w hs
  refine (h hs.wf w hs).mono ?_
  rintro e w' ⟨v, s', he, hs', t, hl, hr⟩
  exact ⟨v, t, he, hs'.weak hl, hr⟩
/-- s' is s, but for what lies above -/
structure Ext (s s' : St) : Prop where
  σ : ∀ b o, s.σ b = some o → s'.σ b = some o
  n : s.n ≤ s'.n
  h : ∀ b, b < s.n → s'.h b = s.h b
theorem St.wf.none {s : St} (h : s.wf) {b : Nat} (hb : s.n ≤ b) : s.h b = none := by
  cases hh : s.h b with
  | none => rfl
  | some o => have := h.lt_h hh; omega
theorem Ext.refl (s : St) : Ext s s := ⟨fun _ _ h => h, Nat.le_refl _, fun _ _ => rfl⟩
theorem Ext.new {s t : St} (h : Ext s t) (o : Obj) : Ext s (t.new o) := ⟨h.σ, Nat.le_succ_of_le h.n, fun b hb => by rw [new_h_ne _ (by have := h.n; omega), h.h b hb]⟩
theorem Ext.lay {s t : St} (h : Ext s t) (b : Nat) (o : Obj) (n : Nat) (hb : s.n ≤ b) (hn : t.n ≤ n) : Ext s (t.lay b o n) := ⟨h.σ, Nat.le_trans h.n hn, fun c hc => by rw [lay_h_ne _ _ (by omega), h.h c hc]⟩
theorem Ext.upd {s t : St} (h : Ext s t) (b : Nat) (o : Obj) (hb : s.n ≤ b) : Ext s (t.upd b o) := ⟨h.σ, h.n, fun c hc => by rw [upd_h_ne _ (by omega), h.h c hc]⟩
theorem Ext.more {s t : St} (h : Ext s t) (k : Nat) (hk : t.n ≤ k) : Ext s (t.more k) := ⟨h.σ, Nat.le_trans h.n hk, h.h⟩
theorem Ext.le {s t : St} (h : Ext s t) (hw : s.wf) : Le (s.more t.n) t := by
  refine ⟨rfl, fun b o hb => ?_, fun b o hb => ?_, hw.dis⟩
  · have hb : s.σ b = some o := hb
    have hlt := hw.lt_σ hb
    have hn : s.h b = Option.none := by
      cases hh : s.h b with
      | none => rfl
      | some o' => rw [hw.dis b o' hh] at hb; cases hb
    simp only [St.at, h.h b hlt, hn, h.σ b o hb]
  · rw [h.h b (hw.lt_h hb)]; exact hb
theorem drop_ext {s t : St} {R : Value → St → Prop} {v : Value} (hw : s.wf) (h : Ext s t) (hr : ∀ n, s.n ≤ n → R v (s.more n)) : Drop R v t := ⟨_, h.le hw, hr _ h.n⟩

/-- a block of its own is handed out, to be read alone -/
def St.froz (s : St) (b : Nat) (o : Obj) (n : Nat) : St := ⟨TX.upd s.σ b o, s.h, n⟩
theorem Ext.frz {s t : St} (h : Ext s t) (hw : s.wf) (b : Nat) (o : Obj) (n : Nat) (hb : s.n ≤ b) (hn : t.n ≤ n) : Ext s (t.froz b o n) :=
  ⟨fun c o' hc => by have := hw.lt_σ hc; simp only [St.froz, TX.upd]; rw [if_neg (by omega)]; exact h.σ c o' hc, Nat.le_trans h.n hn, h.h⟩
theorem Ext.froz {s t : St} (h : Ext s t) (hw : s.wf) {b : Nat} {o : Obj} (hb : s.n ≤ b) (ho : t.h b = some o) : Le (s.froz b o t.n) t := by
  have hl := h.le hw
  refine ⟨rfl, fun c o' hc => ?_, hl.h, fun c o' hc => ?_⟩
  · simp only [St.froz, TX.upd] at hc
    split at hc
    · rename_i e; subst e; cases hc; exact at_of_h ho
    · exact hl.σ c o' hc
  · simp only [St.froz, TX.upd]
    have := hw.lt_h hc
    rw [if_neg (by omega)]; exact hl.dis c o' hc
theorem drop_froz {s t : St} {R : Value → St → Prop} {v : Value} (hw : s.wf) (h : Ext s t) {b : Nat} {o : Obj} (hb : s.n ≤ b) (ho : t.h b = some o) (hr : R v (s.froz b o t.n)) : Drop R v t := ⟨_, h.froz hw hb ho, hr⟩
@[go_sem] theorem froz_σ_self (s : St) (b : Nat) (o : Obj) (n : Nat) : (s.froz b o n).σ b = some o := by simp [St.froz, TX.upd]
@[go_sem] theorem froz_σ_ne (s : St) {b c : Nat} (o : Obj) (n : Nat) (h : c ≠ b) : (s.froz b o n).σ c = s.σ c := by simp [St.froz, TX.upd, h]
@[go_sem] theorem froz_h (s : St) (b : Nat) (o : Obj) (n : Nat) : (s.froz b o n).h = s.h := rfl
@[go_sem] theorem froz_n (s : St) (b : Nat) (o : Obj) (n : Nat) : (s.froz b o n).n = n := rfl
theorem froz_wf {s : St} (hw : s.wf) {b n : Nat} (o : Obj) (hb : s.n ≤ b) (hn : b < n) : (s.froz b o n).wf := by
  refine ⟨fun c o' hc => ?_, fun c o' hc => ?_⟩
  · simp only [St.froz, St.at, TX.upd] at hc
    split at hc
    · rename_i o'' e; have := hw.lt_h e; exact Nat.lt_trans (Nat.lt_of_lt_of_le this hb) hn
    · split at hc
      · rename_i e; subst e; exact hn
      · have := hw.lt_σ hc; exact Nat.lt_trans (Nat.lt_of_lt_of_le this hb) hn
  · simp only [St.froz, TX.upd]
    have := hw.lt_h hc
    rw [if_neg (by omega)]; exact hw.dis c o' hc
theorem froz_at {s : St} (hw : s.wf) {b n : Nat} (o : Obj) (hb : s.n ≤ b) : (s.froz b o n).at b = some o := by
  have : s.h b = none := by
    cases hh : s.h b with
    | none => rfl
    | some o' => have := hw.lt_h hh; omega
  simp [St.at, St.froz, this, TX.upd]
/-- a call, by its code -/
theorem call_of {P : Program} (E : Env P) {f : FuncId} {fn : Func} {c : Code} {args : Array Value} {s : St} {R : Value → St → Prop}
    (pl : Nat → Option DPlan) (hm : P.follows .mixedOrders = true) (hf : P.funcs[f]? = some fn) (hb : fn.body = some c) (hn : args.size ≤ fn.ntmps) (hc : codeOk fn.ntmps pl c = true)
    (h : s.wf → X P E none fn.ntmps pl c (initFr args) s ⟨retQ P fn (Drop R), .mk⟩) : CallOK P E.B f args s R :=
  CallOK.drop fun hw => call_intro pl hm hf hb hn hc (h hw)

section
variable {P : Program} {B : Env P} {r : Option Nat} {n : Nat} {c : Code} {fr : Fr} {s : St} {Q : Kp (Exit → Fr → St → Prop)}
theorem WP_wf (h : s.wf → WP P B r n c fr s Q) : WP P B r n c fr s Q := fun a w hf hs => h hs.wf a w hf hs
theorem WP_le {t : St} (hl : Le t s) (h : WP P B r n c fr t Q) : WP P B r n c fr s Q := fun a w hf hs => h a w hf (hs.weak hl)
/-- a loop -/
theorem loop_of {pl : Nat → Option DPlan} (hm : P.follows .mixedOrders = true) (hc : codeOk n pl c = true)
    (I : Nat → Fr → St → Prop) (m : Nat) (h0 : s.wf → ∃ t, Le t s ∧ I m fr t)
    (round : ∀ m fr s, s.wf → I m fr s → X P B r n pl c fr s ⟨thenQ (fun fr' s' => ∃ m' t, m' < m ∧ Le t s' ∧ I m' fr' t) Q.K, .mk⟩) : WP P B r n (.loop c) fr s Q := by
  intro a w hf hs b k cs hro hb hr
  suffices key : ∀ m fr s a w, Fits n a fr → Sat B.B w s → I m fr s →
      ∃ e a' w', (∃ fr' s', Fits n a' fr' ∧ Sat B.B w' s' ∧ Q.K e fr' s') ∧ ArrivesIn (Machine.fenced P (FW r)) P (lone (b.atR a (.code c :: .inLoop c :: k)) cs w) b k cs e a' w' by
    obtain ⟨t, hl, h0⟩ := h0 hs.wf
    obtain ⟨e, a', w', hq, harr⟩ := key m fr t a w hf (hs.weak hl) h0
    exact ⟨e, a', w', hq, .of_steps (.one (fenced_calm hb hr rfl) stepR_loop) harr⟩
  intro m
  induction m using Nat.strongRecOn with
  | _ m ih =>
    intro fr s a w hf hs hI
    obtain ⟨e, a₁, w₁, hq, harr⟩ := X_sound hm c hc fr s _ (round m fr s hs.wf hI) a w hf hs b (.inLoop c :: k) cs hro hb hr
    obtain ⟨fr₁, s₁, hf₁, hs₁, hq⟩ := hq
    cases e with
    | normal =>
      obtain ⟨m', t, hlt, hl, hI'⟩ := hq
      obtain ⟨e₂, a₂, w₂, hq₂, harr₂⟩ := ih m' hlt fr₁ t a₁ w₁ hf₁ (hs₁.weak hl) hI'
      exact ⟨e₂, a₂, w₂, hq₂, .of_steps (StepsIn.trans harr (.one (fenced_calm hb hr rfl) stepR_inLoop)) harr₂⟩
    | exit id => exact ⟨_, a₁, w₁, ⟨fr₁, s₁, hf₁, hs₁, hq⟩, .pass (x := .inLoop c) rfl (fun _ _ => .inl (by simp)) harr⟩
    | goto l => exact ⟨_, a₁, w₁, ⟨fr₁, s₁, hf₁, hs₁, hq⟩, .pass (x := .inLoop c) rfl (fun _ _ => .inl (by simp)) harr⟩
    | ret => exact ⟨_, a₁, w₁, ⟨fr₁, s₁, hf₁, hs₁, hq⟩, .pass (x := .inLoop c) rfl (fun _ _ => .inl (by simp)) harr⟩
    | panic ch => exact ⟨_, a₁, w₁, ⟨fr₁, s₁, hf₁, hs₁, hq⟩, .pass (x := .inLoop c) rfl (fun _ _ => .inl (by simp)) harr⟩
    | outgrown => exact ⟨_, a₁, w₁, ⟨fr₁, s₁, hf₁, hs₁, hq⟩, .pass (x := .inLoop c) rfl (fun _ _ => .inl (by simp)) harr⟩
/-- a loop, nothing forgotten -/
theorem loop_wf {pl : Nat → Option DPlan} (hm : P.follows .mixedOrders = true) (hc : codeOk n pl c = true)
    (I : Nat → Fr → St → Prop) (m : Nat) (h0 : I m fr s)
    (round : ∀ m fr s, s.wf → I m fr s → X P B r n pl c fr s ⟨thenQ (fun fr' s' => ∃ m', m' < m ∧ I m' fr' s') Q.K, .mk⟩) : WP P B r n (.loop c) fr s Q := by
  intro a w hf hs b k cs hro hb hr
  suffices key : ∀ m fr s a w, Fits n a fr → Sat B.B w s → I m fr s →
      ∃ e a' w', (∃ fr' s', Fits n a' fr' ∧ Sat B.B w' s' ∧ Q.K e fr' s') ∧ ArrivesIn (Machine.fenced P (FW r)) P (lone (b.atR a (.code c :: .inLoop c :: k)) cs w) b k cs e a' w' by
    obtain ⟨e, a', w', hq, harr⟩ := key m fr s a w hf hs h0
    exact ⟨e, a', w', hq, .of_steps (.one (fenced_calm hb hr rfl) stepR_loop) harr⟩
  intro m
  induction m using Nat.strongRecOn with
  | _ m ih =>
    intro fr s a w hf hs hI
    obtain ⟨e, a₁, w₁, hq, harr⟩ := X_sound hm c hc fr s _ (round m fr s hs.wf hI) a w hf hs b (.inLoop c :: k) cs hro hb hr
    obtain ⟨fr₁, s₁, hf₁, hs₁, hq⟩ := hq
    cases e with
    | normal =>
      obtain ⟨m', hlt, hI'⟩ := hq
      obtain ⟨e₂, a₂, w₂, hq₂, harr₂⟩ := ih m' hlt fr₁ s₁ a₁ w₁ hf₁ hs₁ hI'
      exact ⟨e₂, a₂, w₂, hq₂, .of_steps (StepsIn.trans harr (.one (fenced_calm hb hr rfl) stepR_inLoop)) harr₂⟩
    | exit id => exact ⟨_, a₁, w₁, ⟨fr₁, s₁, hf₁, hs₁, hq⟩, .pass (x := .inLoop c) rfl (fun _ _ => .inl (by simp)) harr⟩
    | goto l => exact ⟨_, a₁, w₁, ⟨fr₁, s₁, hf₁, hs₁, hq⟩, .pass (x := .inLoop c) rfl (fun _ _ => .inl (by simp)) harr⟩
    | ret => exact ⟨_, a₁, w₁, ⟨fr₁, s₁, hf₁, hs₁, hq⟩, .pass (x := .inLoop c) rfl (fun _ _ => .inl (by simp)) harr⟩
    | panic ch => exact ⟨_, a₁, w₁, ⟨fr₁, s₁, hf₁, hs₁, hq⟩, .pass (x := .inLoop c) rfl (fun _ _ => .inl (by simp)) harr⟩
    | outgrown => exact ⟨_, a₁, w₁, ⟨fr₁, s₁, hf₁, hs₁, hq⟩, .pass (x := .inLoop c) rfl (fun _ _ => .inl (by simp)) harr⟩
theorem X_le {pl : Nat → Option DPlan} (hm : P.follows .mixedOrders = true) (hc : codeOk n pl c = true) {t : St} (hl : Le t s) (h : X P B r n pl c fr t Q) : WP P B r n c fr s Q := WP_le hl (X_sound hm c hc fr t Q h)
end
attribute [go_sem] List.length_set decide_eq_true_eq decide_eq_false_iff_not and_self true_and and_true beq_iff_eq beq_eq_false_iff_ne ne_eq true_implies false_implies implies_true not_true_eq_false not_false_eq_true bne_iff_ne bne_eq_false_iff_eq bne_self_eq_false beq_self_eq_true Bool.true_or Bool.or_true Bool.false_or Bool.or_false Bool.and_false Bool.false_and Bool.not_not Bool.false_eq_true Bool.true_eq_false Bool.and_true Bool.true_and Bool.not_true Bool.not_false forall_const
@[go_sem] theorem XIf_eq (p : Prop) (K : Kp (Unit → Prop)) : XIf p K = (p ∧ (p → K.K ())) := propext ⟨fun h => ⟨h.1, fun _ => h.2⟩, fun h => ⟨h.1, h.2 h.1⟩⟩
theorem wrap_i64 {n : Int} (h0 : -9223372036854775808 ≤ n) (h1 : n ≤ 9223372036854775807) : IntKind.i64.wrap n = n := by
  simp [IntKind.wrap, IntKind.bits, IntKind.signed, Int.bmod_def]; omega
theorem wrap_u64 {n : Int} (h0 : 0 ≤ n) (h1 : n ≤ 18446744073709551615) : IntKind.u64.wrap n = n := by
  simp [IntKind.wrap, IntKind.bits, IntKind.signed]; omega
theorem wrap_u8 {n : Int} (h0 : 0 ≤ n) (h1 : n ≤ 255) : IntKind.u8.wrap n = n := by
  simp [IntKind.wrap, IntKind.bits, IntKind.signed]; omega
theorem wrap_i32 {n : Int} (h0 : -2147483648 ≤ n) (h1 : n ≤ 2147483647) : IntKind.i32.wrap n = n := by
  simp [IntKind.wrap, IntKind.bits, IntKind.signed, Int.bmod_def]; omega
@[go_sem] theorem bs_size (l : List UInt8) : (ByteArray.mk l.toArray).size = l.length := by simp [ByteArray.size]
@[go_sem] theorem bs_append (a b : List UInt8) : ByteArray.mk a.toArray ++ ByteArray.mk b.toArray = ByteArray.mk (a ++ b).toArray := by
  apply ByteArray.ext; simp
theorem bs_inj (a b : List UInt8) : ByteArray.mk a.toArray = ByteArray.mk b.toArray ↔ a = b := by
  constructor
  · intro h; have := congrArg (fun x : ByteArray => x.data.toList) h; simpa using this
  · rintro rfl; rfl
@[go_sem] theorem isNilV_ptr0 : isNilV (.pointer none) = some true := rfl
@[go_sem] theorem isNilV_ptr (a : Addr) : isNilV (.pointer (some a)) = some false := rfl
@[go_sem] theorem isNilV_if0 : isNilV .nilIface = some true := rfl
@[go_sem] theorem isNilV_if (t : TypeId) (v : Value) : isNilV (.iface t v) = some false := rfl
@[go_sem] theorem isNilV_sl0 (n c : Nat) : isNilV (.slice none n c) = some true := rfl
@[go_sem] theorem isNilV_sl (a : Addr) (n c : Nat) : isNilV (.slice (some a) n c) = some false := rfl
@[go_sem] theorem isNilV_fn0 : isNilV .nilFunc = some true := rfl
@[go_sem] theorem isNilV_fn (f : Fn) (a b : Array Value) : isNilV (.func f a b) = some false := rfl
@[go_sem] theorem kindV_ptr (a : Option Addr) : kindV .ptr (.pointer a) = true := rfl
@[go_sem] theorem kindV_if0 : kindV .iface .nilIface = true := rfl
@[go_sem] theorem kindV_if (t : TypeId) (v : Value) : kindV .iface (.iface t v) = true := rfl
@[go_sem] theorem kindV_sl (a : Option Addr) (n c : Nat) : kindV .slice (.slice a n c) = true := rfl
@[go_sem] theorem kindV_fn0 : kindV .func .nilFunc = true := rfl
@[go_sem] theorem kindV_fn (f : Fn) (a b : Array Value) : kindV .func (.func f a b) = true := rfl
@[go_sem] theorem isConst_c (v : Value) : isConst (.const v) = true := rfl
@[go_sem] theorem isConst_t (t : Tmp) : isConst (.tmp t) = false := rfl
theorem Le.refl {s : St} (h : s.wf) : Le s s := ⟨rfl, fun b o hb => h.at_σ hb, fun b o hb => hb, h.dis⟩
@[go_sem] theorem more_σ (s : St) (k : Nat) : (s.more k).σ = s.σ := rfl
@[go_sem] theorem more_h (s : St) (k : Nat) : (s.more k).h = s.h := rfl
@[go_sem] theorem more_n (s : St) (k : Nat) : (s.more k).n = k := rfl
theorem more_at (s : St) (k b : Nat) : (s.more k).at b = s.at b := rfl
theorem more_wf {s : St} (h : s.wf) {k : Nat} (hk : s.n ≤ k) : (s.more k).wf := ⟨fun b o hb => Nat.lt_of_lt_of_le (h.lt b o hb) hk, h.dis⟩
/-- a function of its arguments' list -/
def Spec.fn (F : List Value → Option Value) : Spec := .pure fun a => F a.toList
theorem Spec.fn_run {F : List Value → Option Value} {l : List Value} {v : Value} (h : F l = some v) (s : St) (K : Kp (Value → St → Prop)) : (Spec.fn F).run l.toArray s K = ∀ k, K.K v (s.more (s.n + k)) := by
  simp only [Spec.fn, Spec.pure, h]
theorem fn_intro {P : Program} {B : World} {f : FuncId} {F : List Value → Option Value}
    (h : ∀ l v, F l = some v → ∀ (s : St) (R : Value → St → Prop), (∀ n, s.n ≤ n → R v (s.more n)) → CallOK P B f l.toArray s R) : ∀ args s K, (Spec.fn F).run args s K → CallOK P B f args s K.K := by
  intro args s K hr
  simp only [Spec.fn, Spec.pure] at hr
  split at hr
  · rename_i v hv
    have := h args.toList v hv s K.K (fun n hn => by
      obtain ⟨k, rfl⟩ : ∃ k, n = s.n + k := ⟨n - s.n, by omega⟩
      exact hr k)
    simpa using this
  · exact hr.elim
end Go.Proofs.TX
