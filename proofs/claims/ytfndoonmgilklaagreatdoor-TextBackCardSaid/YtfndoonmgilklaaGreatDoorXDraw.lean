/- A region that draws its order: one plan, whatever order is drawn. -/
import Derived.Test.YtfndoonmgilklaaGreatDoorXWalk
set_option linter.unusedVariables false
namespace Go.Proofs.TX
open Go

def wantedF (ops : Array Oper) (o : Oper) (fr : Fr) : Bool := match o.guard with
  | none => true
  | some (j, want) => match (ops[j]?).bind (·.dst) with
    | none => false
    | some d => match fr.ρ d with | .bool b => b == want | _ => false
def XOnV (P : Program) (B : Env P) (dt : Bool) (ops : Array Oper) (o : Oper) (fr : Fr) (s : St) (K : Value → St → Prop) : Prop :=
  if wantedF ops o fr then XOp P B dt fr.eval o s ⟨K, .mk⟩ else K undef s
def XOn (P : Program) (B : Env P) (dt : Bool) (ops : Array Oper) (o : Oper) (fr : Fr) (s : St) (K : Kp (Fr → St → Prop)) : Prop := match o.guard with
  | none => XOp P B dt fr.eval o s ⟨fun v s' => K.K (fr.put o.dst v) s', .mk⟩
  | some (j, want) => match (ops[j]?).bind (·.dst) with
    | none => K.K (fr.put o.dst undef) s
    | some d => XG (fr.ρ d) want ⟨fun _ => XOp P B dt (fr.set d (.bool want)).eval o s ⟨fun v s' => K.K ((fr.set d (.bool want)).put o.dst v) s', .mk⟩, .mk⟩
        ⟨fun _ => K.K ((fr.set d (.bool (!want))).put o.dst undef) s, .mk⟩ ⟨fun _ => K.K (fr.put o.dst undef) s, .mk⟩

section
variable {P : Program} {B : Env P} {dt : Bool} {ops : Array Oper} {o : Oper} {fr : Fr} {s : St}
theorem XOn_V {K : Kp (Fr → St → Prop)} (h : XOn P B dt ops o fr s K) : XOnV P B dt ops o fr s (fun v s' => K.K (fr.put o.dst v) s') := by
  unfold XOn at h; unfold XOnV
  cases hg : o.guard with
  | none =>
    have hw : wantedF ops o fr = true := by simp [wantedF, hg]
    simp only [hg] at h; rw [if_pos hw]; exact h
  | some jw =>
    obtain ⟨j, want⟩ := jw
    simp only [hg] at h
    cases hd : (ops[j]?).bind (·.dst) with
    | none =>
      have hw : ¬ wantedF ops o fr = true := by simp [wantedF, hg, hd]
      simp only [hd] at h; rw [if_neg hw]; exact h
    | some d =>
      simp only [hd, XG] at h
      split at h
      · rename_i b hv
        have hw : wantedF ops o fr = (b == want) := by simp [wantedF, hg, hd, hv]
        by_cases hb : b = want
        · subst hb
          have h1 := h.1 rfl
          rw [Fr.set_self hv] at h1
          rw [if_pos (by simp [hw])]; exact h1
        · have hb' : b = !want := by cases b <;> cases want <;> simp_all
          have h1 := h.2 hb'
          rw [← hb', Fr.set_self hv] at h1
          rw [if_neg (by simp [hw, hb])]; exact h1
      · rename_i hv
        have hw : wantedF ops o fr = false := by
          simp only [wantedF, hg, hd]
        rw [if_neg (by simp [hw])]; exact h
theorem XOp_mono {ρ : Operand → Value} {K K' : Value → St → Prop} (hk : ∀ v s, K v s → K' v s) (h : XOp P B dt ρ o s ⟨K, .mk⟩) : XOp P B dt ρ o s ⟨K', .mk⟩ := by
  refine ⟨h.1, wpS_mono _ _ _ _ ?_ h.2⟩
  intro x s' hx
  cases x <;> first | exact hk _ _ hx | exact ⟨hx.1, B.mono _ _ _ _ _ hk hx.2⟩ | exact ⟨hx.1, RoundOK.mono hx.2 hk⟩ | exact hx
theorem XOnV_mono {K K' : Value → St → Prop} (hk : ∀ v s, K v s → K' v s) (h : XOnV P B dt ops o fr s K) : XOnV P B dt ops o fr s K' := by
  unfold XOnV at *
  split
  · rw [if_pos (by assumption)] at h; exact XOp_mono hk h
  · rw [if_neg (by assumption)] at h; exact hk _ _ h
theorem XOnV_congr {fr' : Fr} {K : Value → St → Prop} (hs : ∀ cs b, o.op ≠ .select cs b) (he : ∀ t, t ∈ o.looksAt ops → fr'.ρ t = fr.ρ t) (h : XOnV P B dt ops o fr s K) : XOnV P B dt ops o fr' s K := by
  have hev : execOp fr'.eval o = execOp fr.eval o := execOp_congr o hs fun x hx => by
    cases x with
    | tmp t => exact he t (List.mem_append_left _ (List.mem_filterMap.2 ⟨.tmp t, by simpa using hx, rfl⟩))
    | _ => rfl
  have hw : wantedF ops o fr' = wantedF ops o fr := by
    unfold wantedF
    cases hg : o.guard with
    | none => rfl
    | some jw =>
      obtain ⟨j, want⟩ := jw
      simp only
      cases hd : (ops[j]?).bind (·.dst) with
      | none => rfl
      | some d =>
        simp only
        rw [he d (by simp [Oper.looksAt, hg, hd])]
  unfold XOnV XOp at *
  rw [hw, hev]; exact h
theorem XOnV_det {K : Value → St → Prop} (h : XOnV P B true ops o fr s K) : ∃ v s', K v s' ∧ XOnV P B true ops o fr s (fun v' s'' => v' = v ∧ s'' = s') := by
  unfold XOnV at *
  split at h
  · rename_i hw
    simp only [hw, if_true]
    obtain ⟨x, s', hk, hd⟩ := wpS_det _ _ _ h.2
    cases x with
    | value v => exact ⟨v, s', hk, h.1, wpS_mono _ _ _ _ (by rintro y s2 ⟨rfl, rfl⟩; exact ⟨rfl, rfl⟩) hd⟩
    | skip => exact ⟨undef, s', hk, h.1, wpS_mono _ _ _ _ (by rintro y s2 ⟨rfl, rfl⟩; exact ⟨rfl, rfl⟩) hd⟩
    | enter f args => exact absurd hk.1 (by simp)
    | round l f tmps assign body => exact absurd hk.1 (by simp)
    | _ => exact hk.elim
  · rename_i hw
    simp only [hw]
    exact ⟨undef, s, h, rfl, rfl⟩
theorem XOnV_sound {r : Option Nat} {n : Nat} {a : Act} {w : World} {K : Value → St → Prop} {Q : Exit → Act → World → Prop} {i : Nat} (hi : ops[i]? = some o)
    (hall : opsOk n ops.toList = true) (hf : Fits n a fr) (hs : Sat B.B w s) (h : XOnV P B dt ops o fr s K) :
    wpOpIn (FW r) 0 P ops Q i (fun a' w' => ∃ v s', a' = a.put o.dst v ∧ Sat B.B w' s' ∧ K v s') a w := by
  have hdst : ∀ (j : Nat) (o' : Oper), ops[j]? = some o' → dstOk n o'.dst = true := by
    intro j o' hj
    exact List.all_eq_true.1 hall o' (by
      have : ops.toList[j]? = some o' := by simpa using hj
      exact List.mem_of_getElem? this)
  have hwant : Region.wanted o (yielded ops a.tmps) = wantedF ops o fr := by
    unfold Region.wanted wantedF
    cases hg : o.guard with
    | none => rfl
    | some jw =>
      obtain ⟨j, want⟩ := jw
      simp only [yielded]
      cases hd : (ops[j]?).bind (·.dst) with
      | none => rfl
      | some d =>
        have hdn : d < n := by
          cases hj : ops[j]? with
          | none => simp [hj] at hd
          | some o' =>
            have := hdst j o' hj
            simp only [hj, Option.bind_some] at hd
            rw [hd] at this
            simpa [dstOk] using this
        have hget : a.tmps[d]? = some (fr.ρ d) := by
          have := hf.val d
          rw [Array.getD_eq_getD_getElem?, Array.getElem?_eq_getElem (by rw [hf.size]; exact hdn)] at this
          rw [Array.getElem?_eq_getElem (by rw [hf.size]; exact hdn)]
          simpa using this
        simp only [Option.bind_some, hget]
        cases fr.ρ d <;> rfl
  unfold wpOpIn
  simp only [hi, hwant]
  unfold XOnV at h
  split
  · rw [if_pos (by assumption)] at h
    rw [← hf.eval] at h
    exact Oper.wpIn_mono (fun a' w' hx => hx) (XOp_sound (r := r) (Q := Q) h hs)
  · rw [if_neg (by assumption)] at h
    exact ⟨fun _ _ => trivial, undef, s, rfl, hs, h⟩
end

/-! ### plans -/
inductive DPlan where
  | done
  | take (i : Nat) (p : DPlan)
  | one (i : Nat) (pend : List Nat) (p : DPlan)
  | two (i : Nat) (pi : List Nat) (p : DPlan) (j : Nat) (pj : List Nat) (q : DPlan)
  | three (i : Nat) (pi : List Nat) (p : DPlan) (j : Nat) (pj : List Nat) (q : DPlan) (k : Nat) (pk : List Nat) (u : DPlan)
/-- operation i, done once more, would do what it did -/
def ReOne (P : Program) (B : Env P) (ops : Array Oper) (i : Nat) (fr : Fr) (s : St) : Prop := match ops[i]? with
  | none => True
  | some o => XOn P B true ops o fr s ⟨fun fr' s' => s' = s ∧ fr'.ρ (o.dst.getD 0) = fr.ρ (o.dst.getD 0), .mk⟩
def ReAll (P : Program) (B : Env P) (ops : Array Oper) : List Nat → Fr → St → Prop
  | [], _, _ => True
  | i :: l, fr, s => ReOne P B ops i fr s ∧ ReAll P B ops l fr s
def XAt (P : Program) (B : Env P) (dt : Bool) (ops : Array Oper) (o : Option Oper) (fr : Fr) (s : St) (K : Kp (Fr → St → Prop)) : Prop := match o with
  | none => False
  | some o => XOn P B dt ops o fr s K
def XPl (P : Program) (B : Env P) (ops : Array Oper) : DPlan → Fr → St → Kp (Fr → St → Prop) → Prop
  | .done, fr, s, K => K.K fr s
  | .take i p, fr, s, K => XAt P B true ops ops[i]? fr s ⟨fun fr' s' => s' = s ∧ XPl P B ops p fr' s K, .mk⟩
  | .one i pend p, fr, s, K => XAt P B false ops ops[i]? fr s ⟨fun fr' s' => ReAll P B ops pend fr' s' ∧ XPl P B ops p fr' s' K, .mk⟩
  | .two i pi p j pj q, fr, s, K => XAt P B false ops ops[i]? fr s ⟨fun fr' s' => ReAll P B ops pi fr' s' ∧ XPl P B ops p fr' s' K, .mk⟩ ∧
      XAt P B false ops ops[j]? fr s ⟨fun fr' s' => ReAll P B ops pj fr' s' ∧ XPl P B ops q fr' s' K, .mk⟩
  | .three i pi p j pj q k pk u, fr, s, K => XAt P B false ops ops[i]? fr s ⟨fun fr' s' => ReAll P B ops pi fr' s' ∧ XPl P B ops p fr' s' K, .mk⟩ ∧
      XAt P B false ops ops[j]? fr s ⟨fun fr' s' => ReAll P B ops pj fr' s' ∧ XPl P B ops q fr' s' K, .mk⟩ ∧
      XAt P B false ops ops[k]? fr s ⟨fun fr' s' => ReAll P B ops pk fr' s' ∧ XPl P B ops u fr' s' K, .mk⟩

/-- several simple ones -/
def tks : List Nat → DPlan → DPlan
  | [], p => p
  | i :: l, p => .take i (tks l p)
def dirPred (ops : Array Oper) (j i : Nat) : Bool := match ops[j]? with
  | some o => o.after.any fun e => Region.binds .any e && e.on == i
  | none => false
def anc (ops : Array Oper) : Nat → Nat → Nat → Bool
  | 0, _, _ => false
  | f + 1, j, i => match ops[j]? with
    | some o => o.after.any fun e => Region.binds .any e && (e.on == i || anc ops f e.on i)
    | none => false
def readyV (ops : Array Oper) (L : List Nat) (j : Nat) : Bool := !L.contains j && match ops[j]? with
  | some o => o.after.all fun e => !Region.binds .any e || L.contains e.on
  | none => false
def isSelect (o : Oper) : Bool := match o.op with | .select .. => true | _ => false
def okTake (ops : Array Oper) (L T : List Nat) (i : Nat) : Bool := readyV ops L i && match ops[i]? with
  | none => false
  | some oi => match oi.dst with
    | none => false
    | some d =>
      !(oi.looksAt ops).contains d && ((List.range ops.size).all fun j => j == i || L.contains j || dirPred ops j i || match ops[j]? with
        | some oj => !(oj.looksAt ops).contains d && oj.dst != some d
        | none => true) &&
      T.all fun t => match ops[t]? with
        | some ot => !(ot.looksAt ops).contains d && ot.dst != some d
        | none => true
def okChain (ops : Array Oper) (T : List Nat) (i : Nat) (pend : List Nat) : Bool := T.all fun t => pend.contains t || anc ops ops.size i t
def okPlan (ops : Array Oper) : DPlan → List Nat → List Nat → Bool
  | .done, L, _ => (List.range ops.size).all fun j => L.contains j
  | .take i p, L, T => okTake ops L T i && okPlan ops p (i :: L) (i :: T)
  | .one i pend p, L, T => readyV ops L i && ((List.range ops.size).all fun k => !readyV ops L k || k == i) && okChain ops T i pend && okPlan ops p (i :: L) T
  | .two i pi p j pj q, L, T => readyV ops L i && ((List.range ops.size).all fun k => !readyV ops L k || k == i || k == j) && okChain ops T i pi && okChain ops T j pj && okPlan ops p (i :: L) T && okPlan ops q (j :: L) T
  | .three i pi p j pj q m pm u, L, T => readyV ops L i && ((List.range ops.size).all fun k => !readyV ops L k || k == i || k == j || k == m) && okChain ops T i pi && okChain ops T j pj && okChain ops T m pm && okPlan ops p (i :: L) T && okPlan ops q (j :: L) T && okPlan ops u (m :: L) T
/-- what is asked of the region: its edges lead back, nothing selects -/
def okOps (n : Nat) (ops : Array Oper) : Bool := opsOk n ops.toList && ((List.range ops.size).all fun j => match ops[j]? with
  | some o => !isSelect o && o.after.all fun e => !Region.binds .any e || decide (e.on < j)
  | none => true)

structure DInv (P : Program) (B : Env P) (ops : Array Oper) (L : Array Bool) (LV T : List Nat) (frA fr : Fr) (s : St) : Prop where
  size : L.size = ops.size
  down : ∀ (j : Nat) (o : Oper), ops[j]? = some o → L.getD j false = true → ∀ e ∈ o.after, Region.binds .any e = true → L.getD e.on false = true
  sub : ∀ j, L.getD j false = true → j ∈ LV
  pend : ∀ j, j ∈ LV → L.getD j false = true ∨ j ∈ T
  tsub : ∀ j, j ∈ T → j ∈ LV
  ds : frA.ds = fr.ds
  agree : ∀ t, (∀ i o, i ∈ T → L.getD i false = false → ops[i]? = some o → o.dst ≠ some t) → frA.ρ t = fr.ρ t
  re : ∀ i o, i ∈ T → L.getD i false = false → ops[i]? = some o → ∃ d, o.dst = some d ∧ XOnV P B true ops o fr s (fun v s' => s' = s ∧ v = fr.ρ d)
  ap : ∀ i oi, i ∈ T → L.getD i false = false → ops[i]? = some oi → ∀ j oj, ops[j]? = some oj → j ≠ i → L.getD j false = false → dirPred ops j i = true ∨ ∀ d, oi.dst = some d → d ∉ oj.looksAt ops ∧ oj.dst ≠ some d

theorem getD_set_self {L : Array Bool} {i : Nat} (h : i < L.size) : (L.setIfInBounds i true).getD i false = true := by
  rw [Array.getD_eq_getD_getElem?, Array.getElem?_setIfInBounds_self_of_lt h]; rfl
theorem getD_set {L : Array Bool} {i j : Nat} (h : (L.setIfInBounds i true).getD j false = false) : j ≠ i ∨ ¬ i < L.size := by
  by_cases e : j = i
  · subst e
    by_cases hl : j < L.size
    · rw [getD_set_self hl] at h; cases h
    · exact .inr hl
  · exact .inl e

theorem ReOne_V {P : Program} {B : Env P} {ops : Array Oper} {i : Nat} {o : Oper} {fr : Fr} {s : St} (hi : ops[i]? = some o) {d : Nat} (hd : o.dst = some d) (h : ReOne P B ops i fr s) :
    XOnV P B true ops o fr s (fun v s' => s' = s ∧ v = fr.ρ d) := by
  unfold ReOne at h
  simp only [hi] at h
  refine XOnV_mono ?_ (XOn_V h)
  rintro v s' ⟨h1, h2⟩
  refine ⟨h1, ?_⟩
  simpa [hd, Fr.put, Fr.set] using h2
theorem ReOne_of_V {P : Program} {B : Env P} {ops : Array Oper} {i : Nat} {o : Oper} {fr : Fr} {s : St} (hi : ops[i]? = some o) {d : Nat} (hd : o.dst = some d)
    (h : XOnV P B true ops o fr s (fun v s' => v = fr.ρ d ∧ s' = s)) : XOnV P B true ops o fr s (fun v s' => s' = s ∧ v = fr.ρ d) :=
  XOnV_mono (fun v s' ⟨a, b⟩ => ⟨b, a⟩) h

section main
variable {P : Program} {B : Env P} {ops : Array Oper} {n : Nat} {r : Option Nat}

theorem okOps_at (h : okOps n ops = true) {j : Nat} {o : Oper} (hj : ops[j]? = some o) : (∀ cs b, o.op ≠ .select cs b) ∧ ∀ e ∈ o.after, Region.binds .any e = true → e.on < j := by
  simp only [okOps, Bool.and_eq_true, List.all_eq_true, List.mem_range] at h
  have h1 := h.2 j (Array.getElem?_eq_some_iff.1 hj).1
  simp only [hj, Bool.and_eq_true, Bool.not_eq_true'] at h1
  refine ⟨fun cs b e => by simp [isSelect, e] at h1, fun e he hb => ?_⟩
  have := Array.all_eq_true'.1 h1.2 e he
  simpa [hb] using this

theorem lt_of_op {j : Nat} {o : Oper} (hj : ops[j]? = some o) : j < ops.size := (Array.getElem?_eq_some_iff.1 hj).1

theorem anc_listed {L : Array Bool} (down : ∀ (j : Nat) (o : Oper), ops[j]? = some o → L.getD j false = true → ∀ e ∈ o.after, Region.binds .any e = true → L.getD e.on false = true) :
    ∀ (f : Nat) (j : Nat) (o : Oper) (t : Nat), ops[j]? = some o → (∀ e ∈ o.after, Region.binds .any e = true → L.getD e.on false = true) → anc ops f j t = true → L.getD t false = true := by
  intro f
  induction f with
  | zero => intro j o t _ _ h; simp [anc] at h
  | succ f ih =>
    intro j o t hj hp h
    simp only [anc, hj] at h
    obtain ⟨e, he, hb⟩ := Array.any_eq_true'.1 h
    simp only [Bool.and_eq_true, Bool.or_eq_true, beq_iff_eq] at hb
    have hl := hp e he hb.1
    rcases hb.2 with h1 | h1
    · rw [← h1]; exact hl
    · cases ho : ops[e.on]? with
      | none => cases f <;> simp [anc, ho] at h1
      | some o' => exact ih e.on o' t ho (down _ _ ho hl) h1

theorem getD_false_true {L : Array Bool} {j : Nat} (hs : j < L.size) : L.getD j true = L.getD j false := by
  simp [Array.getD, hs]

/-- the frames agree where an operation looks that may come up now -/
theorem DInv.looks {L : Array Bool} {LV T : List Nat} {frA fr : Fr} {s : St} (I : DInv P B ops L LV T frA fr s) {j : Nat} {oj : Oper} (hj : ops[j]? = some oj) (hun : L.getD j false = false)
    (hp : ∀ e ∈ oj.after, Region.binds .any e = true → L.getD e.on false = true) (hown : ∀ d, j ∈ T → oj.dst = some d → d ∉ oj.looksAt ops) : ∀ t, t ∈ oj.looksAt ops → frA.ρ t = fr.ρ t := by
  intro t ht
  refine I.agree t ?_
  intro i o hi hl ho hd
  by_cases e : i = j
  · subst e; rw [hj] at ho; cases ho; exact hown t hi hd ht
  · rcases I.ap i o hi hl ho j oj hj (Ne.symm e) hun with h | h
    · simp only [dirPred, hj] at h
      obtain ⟨ed, he, hb⟩ := Array.any_eq_true'.1 h
      simp only [Bool.and_eq_true, beq_iff_eq] at hb
      have := hp ed he hb.1
      rw [hb.2, hl] at this; cases this
    · exact (h t hd).1 ht

theorem plan_sound {K : Kp (Fr → St → Prop)} {Q : Exit → Act → World → Prop} (hok : okOps n ops = true)
    (hQ : ∀ a fr w s, Fits n a fr → Sat B.B w s → K.K fr s → Q .normal a w) :
    ∀ (fuel : Nat) (L : Array Bool), L.toList.count false ≤ fuel → ∀ (a : Act) (w : World) (frA : Fr), Fits n a frA → ∀ (plan : DPlan) (LV T : List Nat) (fr : Fr) (s : St),
      DInv P B ops L LV T frA fr s → Sat B.B w s → (∀ t d o, t ∈ T → ops[t]? = some o → o.dst = some d → d ∉ o.looksAt ops) → okPlan ops plan LV T = true → XPl P B ops plan fr s K → wpAnyIn (FW r) 0 P .any ops Q fuel L a w := by
  have hall : opsOk n ops.toList = true := by simp only [okOps, Bool.and_eq_true] at hok; exact hok.1
  have hdone : ∀ (L : Array Bool) (a : Act) (w : World) (frA : Fr), Fits n a frA → ∀ (plan : DPlan) (LV T : List Nat) (fr : Fr) (s : St),
      DInv P B ops L LV T frA fr s → Sat B.B w s → okPlan ops plan LV T = true → XPl P B ops plan fr s K → Region.ready .any ops L = [] → Q .normal a w := by
    intro L a w frA hf plan LV T fr s I hs hp hx hr
    have hl : ∀ j, j < ops.size → L.getD j false = true := by
      intro j
      induction j using Nat.strongRecOn with
      | _ j ihj =>
        intro hj
        cases hb : L.getD j false with
        | true => rfl
        | false =>
          obtain ⟨o, ho⟩ : ∃ o, ops[j]? = some o := ⟨ops[j], by simp [hj]⟩
          have : j ∈ Region.ready .any ops L := mem_ready.2 ⟨by rw [getD_false_true (by rw [I.size]; exact hj)]; exact hb, o, ho, fun e he hbd => by
            have hlt := (okOps_at hok ho).2 e he hbd
            exact ihj e.on hlt (by omega)⟩
          rw [hr] at this; cases this
    have hnot : ∀ i, readyV ops LV i = true → False := by
      intro i hi
      simp only [readyV, Bool.and_eq_true, Bool.not_eq_true'] at hi
      cases ho : ops[i]? with
      | none => simp [ho] at hi
      | some o => have := I.sub i (hl i (lt_of_op ho)); have h1 := hi.1; simp [this] at h1
    have hfr : frA = fr := by
      have : frA.ρ = fr.ρ := by
        funext t
        refine I.agree t fun i o hi hu ho => ?_
        rw [hl i (lt_of_op ho)] at hu; cases hu
      cases frA; cases fr; simp only at this; have hd := I.ds; simp only at hd; subst this; subst hd; rfl
    cases plan with
    | done => exact hQ a fr w s (hfr ▸ hf) hs hx
    | take i p => simp only [okPlan, okTake, Bool.and_eq_true] at hp; exact (hnot i hp.1.1).elim
    | one i pend p => simp only [okPlan, Bool.and_eq_true] at hp; exact (hnot i hp.1.1.1).elim
    | two i pi p j pj q => simp only [okPlan, Bool.and_eq_true] at hp; exact (hnot i hp.1.1.1.1.1).elim
    | three i pi p j pj q k pk u => simp only [okPlan, Bool.and_eq_true] at hp; exact (hnot i hp.1.1.1.1.1.1.1).elim
  intro fuel
  induction fuel with
  | zero =>
    intro L hc a w frA hf plan LV T fr s I hs hown hp hx
    have hr : Region.ready .any ops L = [] := by
      cases hq : Region.ready .any ops L with
      | nil => rfl
      | cons j rest =>
        have hj : j ∈ Region.ready .any ops L := by rw [hq]; exact List.mem_cons_self
        obtain ⟨hu, o, ho, _⟩ := mem_ready.1 hj
        have hlt : j < L.size := by rw [I.size]; exact lt_of_op ho
        have hmem : false ∈ L.toList := by
          have : L.toList[j]? = some false := by
            rw [getD_false_true hlt] at hu
            rw [Array.getElem?_toList]
            simp [Array.getD, hlt] at hu
            simp [hlt, hu]
          exact List.mem_of_getElem? this
        have := List.count_pos_iff.2 hmem
        omega
    exact ⟨hr, hdone L a w frA hf plan LV T fr s I hs hp hx hr⟩
  | succ fuel ih =>
    intro L hc a w frA hf plan LV T fr s I hs hown hp hx
    refine ⟨hdone L a w frA hf plan LV T fr s I hs hp hx, ?_⟩
    intro j hj
    obtain ⟨hu, oj, hoj, hpre⟩ := mem_ready.1 hj
    have hjlt : j < L.size := by rw [I.size]; exact lt_of_op hoj
    rw [getD_false_true hjlt] at hu
    have hcount : (L.setIfInBounds j true).toList.count false ≤ fuel := by
      have h1 : L.toList[j]'(by simpa using hjlt) = false := by
        have : L.getD j false = L[j] := by simp [Array.getD, hjlt]
        rw [this] at hu; simpa using hu
      rw [Array.toList_setIfInBounds, List.count_set (by simpa using hjlt)]
      have hpos : 0 < L.toList.count false := List.count_pos_iff.2 (by rw [← h1]; exact List.getElem_mem _)
      simp only [h1, beq_self_eq_true, if_true, show (true == false) = false from rfl, Bool.false_eq_true, if_false]
      omega
    have hset : ∀ i, (L.setIfInBounds j true).getD i false = false → L.getD i false = false ∧ i ≠ j := by
      intro i hi
      by_cases e : i = j
      · subst e; rw [getD_set_self hjlt] at hi; cases hi
      · rw [getD_set_ne false (Ne.symm e)] at hi; exact ⟨hi, e⟩
    have hset' : ∀ i, (L.setIfInBounds j true).getD i false = true → L.getD i false = true ∨ i = j := by
      intro i hi
      by_cases e : i = j
      · exact .inr e
      · rw [getD_set_ne false (Ne.symm e)] at hi; exact .inl hi
    have hdown : ∀ (k : Nat) (o : Oper), ops[k]? = some o → (L.setIfInBounds j true).getD k false = true → ∀ e ∈ o.after, Region.binds .any e = true → (L.setIfInBounds j true).getD e.on false = true := by
      intro k o hk hl e he hb
      rcases hset' k hl with h | h
      · exact getD_set_true (I.down k o hk h e he hb)
      · subst h; rw [hoj] at hk; cases hk; exact getD_set_true (hpre e he hb)
    -- what a chain operation leaves
    have hchain : ∀ (pend : List Nat) (p : DPlan) (LV T : List Nat) (fr : Fr) (s : St), DInv P B ops L LV T frA fr s → Sat B.B w s → (∀ t d o, t ∈ T → ops[t]? = some o → o.dst = some d → d ∉ o.looksAt ops) → j ∉ LV → okChain ops T j pend = true → okPlan ops p (j :: LV) T = true →
        XAt P B false ops ops[j]? fr s ⟨fun fr' s' => ReAll P B ops pend fr' s' ∧ XPl P B ops p fr' s' K, .mk⟩ →
        wpOpIn (FW r) 0 P ops Q j (wpAnyIn (FW r) 0 P .any ops Q fuel (L.setIfInBounds j true)) a w := by
      intro pend p LV T fr s I hs hown hjn hck hp hx
      simp only [hoj, XAt] at hx
      have hv := XOn_V hx
      have hjT : j ∉ T := fun h => hjn (I.tsub j h)
      have hlk := I.looks hoj hu hpre (fun d h => absurd h hjT)
      have hv' := XOnV_congr (okOps_at hok hoj).1 hlk hv
      refine wpOpIn_mono ?_ (XOnV_sound (r := r) (Q := Q) hoj hall hf hs hv')
      rintro a' w' ⟨v, s', rfl, hs', hre, hpl⟩
      have hdok : dstOk n oj.dst = true := List.all_eq_true.1 hall oj (by
        have : ops.toList[j]? = some oj := by simpa using hoj
        exact List.mem_of_getElem? this)
      refine ih _ hcount _ w' (frA.put oj.dst v) (hf.put hdok v) p (j :: LV) T (fr.put oj.dst v) s' ?_ hs' hown hp hpl
      refine ⟨by simp [I.size], hdown, ?_, ?_, ?_, ?_, ?_, ?_, ?_⟩
      · intro i hi
        rcases hset' i hi with h | h
        · exact List.mem_cons_of_mem _ (I.sub i h)
        · subst h; exact List.mem_cons_self
      · intro i hi
        rcases List.mem_cons.1 hi with h | h
        · subst h; exact .inl (getD_set_self hjlt)
        · rcases I.pend i h with h1 | h1
          · exact .inl (getD_set_true h1)
          · exact .inr h1
      · exact fun i hi => List.mem_cons_of_mem _ (I.tsub i hi)
      · cases oj.dst <;> exact I.ds
      · intro t ht
        have hag : (∀ d, oj.dst = some d → d ≠ t) → frA.ρ t = fr.ρ t := fun _ => I.agree t fun i o hi hl ho => by
          by_cases e : i = j
          · subst e; exact absurd hi hjT
          · exact ht i o hi (by rw [getD_set_ne false (Ne.symm e)]; exact hl) ho
        cases hd : oj.dst with
        | none => exact hag (by simp [hd])
        | some d =>
          simp only [Fr.put, Fr.set]
          split
          · rfl
          · rename_i hne; exact hag (by intro d' hd'; rw [hd] at hd'; cases hd'; exact fun e => hne e.symm)
      · intro i o hi hl ho
        obtain ⟨hl', hne⟩ := hset i hl
        obtain ⟨d, hd, _⟩ := I.re i o hi hl' ho
        refine ⟨d, hd, ?_⟩
        have hck' := List.all_eq_true.1 hck i hi
        simp only [Bool.or_eq_true] at hck'
        rcases hck' with h | h
        · have hmem : i ∈ pend := by simpa using h
          have hone : ReOne P B ops i (fr.put oj.dst v) s' := by
            clear hck hx hv hv' 
            induction pend with
            | nil => cases hmem
            | cons x xs ihx =>
              rcases List.mem_cons.1 hmem with h1 | h1
              · subst h1; exact hre.1
              · exact ihx hre.2 (by simpa using h1) h1
          exact ReOne_V ho hd hone
        · have := anc_listed I.down ops.size j oj i hoj hpre h
          rw [hl'] at this; cases this
      · intro i oi hi hl hoi k ok hk hne hlk'
        exact I.ap i oi hi (hset i hl).1 hoi k ok hk hne (hset k hlk').1
    -- what was taken comes up
    have htaken : ∀ (plan : DPlan) (LV T : List Nat) (fr : Fr) (s : St), DInv P B ops L LV T frA fr s → Sat B.B w s → (∀ t d o, t ∈ T → ops[t]? = some o → o.dst = some d → d ∉ o.looksAt ops) → j ∈ LV → okPlan ops plan LV T = true → XPl P B ops plan fr s K →
        wpOpIn (FW r) 0 P ops Q j (wpAnyIn (FW r) 0 P .any ops Q fuel (L.setIfInBounds j true)) a w := by
      intro plan LV T fr s I hs hown hjn hp hx
      have hjT : j ∈ T := (I.pend j hjn).resolve_left (by rw [hu]; simp)
      obtain ⟨d, hd, hv⟩ := I.re j oj hjT hu hoj
      have hlk := I.looks hoj hu hpre (fun d h hd => hown j d oj h hoj hd)
      have hv' := XOnV_congr (okOps_at hok hoj).1 hlk hv
      refine wpOpIn_mono ?_ (XOnV_sound (r := r) (Q := Q) hoj hall hf hs hv')
      rintro a' w' ⟨v, s', rfl, hs', rfl, rfl⟩
      have hdok : dstOk n oj.dst = true := List.all_eq_true.1 hall oj (by
        have : ops.toList[j]? = some oj := by simpa using hoj
        exact List.mem_of_getElem? this)
      refine ih _ hcount _ w' (frA.put oj.dst (fr.ρ d)) (hf.put hdok _) plan LV T fr s' ?_ hs' hown hp hx
      refine ⟨by simp [I.size], hdown, ?_, ?_, I.tsub, ?_, ?_, ?_, ?_⟩
      · intro i hi
        rcases hset' i hi with h | h
        · exact I.sub i h
        · subst h; exact hjn
      · intro i hi
        rcases I.pend i hi with h1 | h1
        · exact .inl (getD_set_true h1)
        · exact .inr h1
      · rw [hd]; exact I.ds
      · intro t ht
        rw [hd]
        simp only [Fr.put, Fr.set]
        split
        · rename_i e; rw [e]
        · rename_i hne
          refine I.agree t fun i o hi hl ho => ?_
          by_cases e : i = j
          · subst e; rw [hoj] at ho; cases ho; rw [hd]; intro x; cases x; exact hne rfl
          · exact ht i o hi (by rw [getD_set_ne false (Ne.symm e)]; exact hl) ho
      · intro i o hi hl ho
        exact I.re i o hi (hset i hl).1 ho
      · intro i oi hi hl hoi k ok hk hne hlk'
        exact I.ap i oi hi (hset i hl).1 hoi k ok hk hne (hset k hlk').1
    -- along the plan
    suffices key : ∀ (plan : DPlan) (LV T : List Nat) (fr : Fr) (s : St), DInv P B ops L LV T frA fr s → Sat B.B w s → (∀ t d o, t ∈ T → ops[t]? = some o → o.dst = some d → d ∉ o.looksAt ops) → okPlan ops plan LV T = true → XPl P B ops plan fr s K →
        wpOpIn (FW r) 0 P ops Q j (wpAnyIn (FW r) 0 P .any ops Q fuel (L.setIfInBounds j true)) a w from key plan LV T fr s I hs hown hp hx
    have hrdy : ∀ LV T fr s, DInv P B ops L LV T frA fr s → j ∉ LV → readyV ops LV j = true := by
      intro LV T fr s I hjn
      simp only [readyV, hoj, Bool.and_eq_true, Bool.not_eq_true', Array.all_eq_true', Bool.or_eq_true]
      refine ⟨by simpa using hjn, fun e he => ?_⟩
      cases hb : Region.binds .any e with
      | false => exact .inl rfl
      | true => exact .inr (by simpa using I.sub e.on (hpre e he hb))
    intro plan
    induction plan with
    | done =>
      intro LV T fr s I hs hown hp hx
      have hjn : j ∈ LV := by
        simp only [okPlan, List.all_eq_true, List.mem_range] at hp
        simpa using hp j (lt_of_op hoj)
      exact htaken _ LV T fr s I hs hown hjn hp hx
    | take i p ihp =>
      intro LV T fr s I hs hown hp hx
      by_cases hjn : j ∈ LV
      · exact htaken _ LV T fr s I hs hown hjn hp hx
      · simp only [okPlan, Bool.and_eq_true] at hp
        obtain ⟨hp1, hp2⟩ := hp
        simp only [okTake, Bool.and_eq_true] at hp1
        obtain ⟨hri, hp1⟩ := hp1
        cases hoi : ops[i]? with
        | none => simp [hoi] at hp1
        | some oi =>
          simp only [hoi] at hp1
          cases hdi : oi.dst with
          | none => simp [hdi] at hp1
          | some d =>
            simp only [hdi, Bool.and_eq_true, List.all_eq_true, List.mem_range] at hp1
            obtain ⟨⟨hself, hfree⟩, hT⟩ := hp1
            have hself' : d ∉ oi.looksAt ops := by simpa using hself
            have hiLV : i ∉ LV := by simp only [readyV, Bool.and_eq_true, Bool.not_eq_true'] at hri; simpa using hri.1
            have hiL : L.getD i false = false := by
              cases h : L.getD i false with
              | false => rfl
              | true => exact absurd (I.sub i h) hiLV
            simp only [XPl, hoi, XAt] at hx
            obtain ⟨v, s', ⟨rfl, hpl⟩, hdet⟩ := XOnV_det (XOn_V hx)
            simp only [hdi, Fr.put] at hpl
            refine ihp (i :: LV) (i :: T) (fr.set d v) s' ?_ hs ?_ hp2 hpl
            · have hTd : ∀ t o, t ∈ T → ops[t]? = some o → d ∉ o.looksAt ops ∧ o.dst ≠ some d := by
                intro t o ht ho
                have := hT t ht
                simp only [ho, Bool.and_eq_true, Bool.not_eq_true', bne_iff_ne, ne_eq] at this
                exact ⟨by simpa using this.1, this.2⟩
              refine ⟨I.size, I.down, ?_, ?_, ?_, I.ds, ?_, ?_, ?_⟩
              · exact fun k hk => List.mem_cons_of_mem _ (I.sub k hk)
              · intro k hk
                rcases List.mem_cons.1 hk with h | h
                · subst h; exact .inr List.mem_cons_self
                · exact (I.pend k h).imp id (List.mem_cons_of_mem _)
              · intro k hk
                rcases List.mem_cons.1 hk with h | h
                · subst h; exact List.mem_cons_self
                · exact List.mem_cons_of_mem _ (I.tsub k h)
              · intro t ht
                have hne : t ≠ d := by
                  intro e; subst e
                  exact ht i oi List.mem_cons_self hiL hoi hdi
                simp only [Fr.set, hne, if_false]
                exact I.agree t fun k o hk hl ho => ht k o (List.mem_cons_of_mem _ hk) hl ho
              · intro k o hk hl ho
                rcases List.mem_cons.1 hk with h | h
                · subst h
                  rw [hoi] at ho; cases ho
                  refine ⟨d, hdi, ?_⟩
                  refine XOnV_mono ?_ (XOnV_congr (fr' := fr.set d v) (okOps_at hok hoi).1 (fun t ht => ?_) hdet)
                  · rintro v' s'' ⟨rfl, rfl⟩; exact ⟨rfl, by simp [Fr.set]⟩
                  · simp only [Fr.set]; rw [if_neg]; rintro rfl; exact hself' ht
                · obtain ⟨dk, hdk, hvk⟩ := I.re k o h hl ho
                  obtain ⟨h1, h2⟩ := hTd k o h ho
                  refine ⟨dk, hdk, ?_⟩
                  refine XOnV_mono ?_ (XOnV_congr (fr' := fr.set d v) (okOps_at hok ho).1 (fun t ht => ?_) hvk)
                  · rintro v' s'' ⟨rfl, rfl⟩
                    refine ⟨rfl, ?_⟩
                    simp only [Fr.set]; rw [if_neg]; rintro rfl; exact h2 hdk
                  · simp only [Fr.set]; rw [if_neg]; rintro rfl; exact h1 ht
              · intro k ok hk hl hok' m om hm hne hlm
                rcases List.mem_cons.1 hk with h | h
                · subst h
                  rw [hoi] at hok'; cases hok'
                  by_cases hmL : m ∈ LV
                  · have hmT : m ∈ T := (I.pend m hmL).resolve_left (by rw [hlm]; simp)
                    refine .inr fun d' hd' => ?_
                    rw [hdi] at hd'; cases hd'
                    exact hTd m om hmT hm
                  · have := hfree m (lt_of_op hm)
                    simp only [Bool.or_eq_true, beq_iff_eq, hne, false_or, hm, Bool.and_eq_true, Bool.not_eq_true', bne_iff_ne, ne_eq] at this
                    rcases this with (h1 | h1) | h1
                    · exact absurd (by simpa using h1) hmL
                    · exact .inl h1
                    · refine .inr fun d' hd' => ?_
                      rw [hdi] at hd'; cases hd'
                      exact ⟨by simpa using h1.1, h1.2⟩
                · exact I.ap k ok h hl hok' m om hm hne hlm
            · intro t d' o ht ho hd'
              rcases List.mem_cons.1 ht with h | h
              · subst h; rw [hoi] at ho; cases ho; rw [hdi] at hd'; cases hd'; exact hself'
              · exact hown t d' o h ho hd'
    | one i pend p ihp =>
      intro LV T fr s I hs hown hp hx
      by_cases hjn : j ∈ LV
      · exact htaken _ LV T fr s I hs hown hjn hp hx
      · simp only [okPlan, Bool.and_eq_true, List.all_eq_true, List.mem_range] at hp
        obtain ⟨⟨⟨_, hall1⟩, hck⟩, hp2⟩ := hp
        have hji : j = i := by
          have := hall1 j (lt_of_op hoj)
          simpa [hrdy LV T fr s I hjn] using this
        subst hji
        exact hchain pend p LV T fr s I hs hown hjn hck hp2 hx
    | two i pi p i' pj q ihp ihq =>
      intro LV T fr s I hs hown hp hx
      by_cases hjn : j ∈ LV
      · exact htaken _ LV T fr s I hs hown hjn hp hx
      · simp only [okPlan, Bool.and_eq_true, List.all_eq_true, List.mem_range] at hp
        obtain ⟨⟨⟨⟨⟨_, hall1⟩, hck⟩, hck'⟩, hp2⟩, hp3⟩ := hp
        have hji : j = i ∨ j = i' := by
          have := hall1 j (lt_of_op hoj)
          simpa [hrdy LV T fr s I hjn] using this
        rcases hji with h | h
        · subst h; exact hchain pi p LV T fr s I hs hown hjn hck hp2 hx.1
        · subst h; exact hchain pj q LV T fr s I hs hown hjn hck' hp3 hx.2
    | three i pi p i' pj q i2 pk u ihp ihq ihu =>
      intro LV T fr s I hs hown hp hx
      by_cases hjn : j ∈ LV
      · exact htaken _ LV T fr s I hs hown hjn hp hx
      · simp only [okPlan, Bool.and_eq_true, List.all_eq_true, List.mem_range] at hp
        obtain ⟨⟨⟨⟨⟨⟨⟨_, hall1⟩, hck⟩, hck'⟩, hck2⟩, hp2⟩, hp3⟩, hp4⟩ := hp
        have hji : (j = i ∨ j = i') ∨ j = i2 := by
          have := hall1 j (lt_of_op hoj)
          simpa [hrdy LV T fr s I hjn] using this
        rcases hji with (h | h) | h
        · subst h; exact hchain pi p LV T fr s I hs hown hjn hck hp2 hx.1
        · subst h; exact hchain pj q LV T fr s I hs hown hjn hck' hp3 hx.2.1
        · subst h; exact hchain pk u LV T fr s I hs hown hjn hck2 hp4 hx.2.2

end main
end Go.Proofs.TX
