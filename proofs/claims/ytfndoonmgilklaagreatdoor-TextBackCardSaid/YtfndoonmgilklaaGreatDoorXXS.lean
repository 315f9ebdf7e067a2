/- The executor's rules, as equations for simp. -/
import Derived.Test.YtfndoonmgilklaaGreatDoorXOps
set_option linter.unusedSimpArgs false
namespace Go.Proofs.TX
open Go
set_option linter.unusedVariables false

/-! ### calls -/
def initFr (args : Array Value) : Fr := ⟨fun t => args.getD t undef, []⟩
/-- what a result's variable holds -/
def XRv (P : Program) (fr : Fr) (s : St) : ResultVar → Kp (Value → Prop) → Prop
  | .tmp t, K => K.K (fr.ρ t)
  | .cell a t, K => XLoad P t (fr.ρ a) s K
def XRs (P : Program) (fr : Fr) (s : St) : List ResultVar → Kp (List Value → Prop) → Prop
  | [], K => K.K []
  | r :: rs, K => XRv P fr s r ⟨fun v => XRs P fr s rs ⟨fun vs => K.K (v :: vs), .mk⟩, .mk⟩
def tupled : List Value → Value
  | [v] => v
  | vs => .tuple vs.toArray
/-- a function's end -/
def XEnd (P : Program) (fn : Func) (R : Value → St → Prop) (fr : Fr) (s : St) : Prop :=
  fr.ds = [] ∧ XRs P fr s fn.results.toList ⟨fun vs => R (tupled vs) s, .mk⟩
def retQ (P : Program) (fn : Func) (R : Value → St → Prop) : Exit → Fr → St → Prop
  | .normal, fr, s => XEnd P fn R fr s
  | .ret, fr, s => XEnd P fn R fr s
  | _, _, _ => False

theorem XRs_sound {P : Program} {B : Env P} {n : Nat} {fr : Fr} {s : St} {a : Act} {w : World} (hf : Fits n a fr) (hs : Sat B.B w s) (g : ResultVar → Sem Value)
    (h1 : ∀ t, g (.tmp t) = pure (a.tmps.getD t undef)) (h2 : ∀ ad t, g (.cell ad t) = (asAddr (a.tmps.getD ad undef) >>= fun p => loadVar t p)) : ∀ (l : List ResultVar) (K : Kp (List Value → Prop)),
    XRs P fr s l K → ∃ vs, Sem.run P (l.mapM g) w = .ok vs w ∧ K.K vs := by
  intro l
  induction l with
  | nil => exact fun K h => ⟨[], rfl, h⟩
  | cons r rs ih =>
    intro K h
    simp only [XRs] at h
    rw [List.mapM_cons]
    cases r with
    | tmp t =>
      simp only [XRv] at h
      obtain ⟨vs, hr, hk⟩ := ih _ h
      refine ⟨fr.ρ t :: vs, ?_, hk⟩
      simp [h1, hf.val, hr]
    | cell ad t =>
      simp only [XRv] at h
      obtain ⟨p, hp, h⟩ : ∃ p, fr.ρ ad = .pointer (some p) ∧ wpR P (loadVar t p) s (fun v => XRs P fr s rs ⟨fun vs => K.K (v :: vs), .mk⟩) := by
        cases hq : fr.ρ ad with
        | pointer p => cases p with
          | none => simp [XLoad, hq] at h
          | some p => exact ⟨p, rfl, wpR_loadVar (by rw [hq] at h; exact h)⟩
        | _ => simp [XLoad, hq] at h
      obtain ⟨v, hv, h⟩ := wpR_sound _ _ _ _ h hs
      obtain ⟨vs, hr, hk⟩ := ih _ h
      refine ⟨v :: vs, ?_, hk⟩
      simp [h2, hf.val, hp, asAddr, hv, hr]

theorem call_intro {P : Program} {B : Env P} {f : FuncId} {fn : Func} {c : Code} {args : Array Value} {s : St} {R : Value → St → Prop}
    (pl : Nat → Option DPlan) (hm : P.follows .mixedOrders = true) (hf : P.funcs[f]? = some fn) (hb : fn.body = some c) (hn : args.size ≤ fn.ntmps) (hc : codeOk fn.ntmps pl c = true)
    (h : X P B none fn.ntmps pl c (initFr args) s ⟨retQ P fn R, .mk⟩) : CallOK P B.B f args s R := by
  intro w hs
  refine callsIn_of_wp (F := Fence.wide) hf hb trivial ?_
  have hfit : Fits fn.ntmps { tmps := args ++ Array.replicate (fn.ntmps - args.size) undef, defers := [] } (initFr args) := by
    refine ⟨by simp; omega, rfl, fun t => ?_⟩
    simp only [initFr, Array.getD_eq_getD_getElem?]
    rw [Array.getElem?_append]
    split
    · rfl
    · rename_i hlt
      rw [Array.getElem?_replicate, Array.getElem?_eq_none (by omega)]
      split <;> rfl
  refine wpIn_mono (X_sound hm c hc _ _ _ h _ w hfit hs) ?_
  rintro e a' w' ⟨fr', s', hf', hs', hq⟩
  have hfin : ∀ (hx : XEnd P fn R fr' s'), a'.defers = [] ∧ ∃ v, (results fn a'.tmps).run P w' = .ok v w' ∧ ∃ v₁ s₁, Ending.returned v = .returned v₁ ∧ Sat B.B w' s₁ ∧ R v₁ s₁ := by
    rintro ⟨hd, hx⟩
    refine ⟨by rw [hf'.defers, hd], ?_⟩
    obtain ⟨vs, hr, hk⟩ := XRs_sound hf' hs' (fun | .tmp t => pure (a'.tmps.getD t undef) | .cell a t => do loadVar t (← asAddr (a'.tmps.getD a undef))) (fun _ => rfl) (fun _ _ => rfl) _ _ hx
    refine ⟨tupled vs, ?_, _, s', rfl, hs', hk⟩
    unfold results
    rw [Array.mapM_eq_mapM_toList]
    simp only [Sem.run_bind, Sem.run_map]
    refine (congrArg (fun x => (Result.andThen x _).andThen _) hr).trans ?_
    cases vs with
    | nil => simp [tupled]
    | cons x xs => cases xs <;> simp [tupled]
  cases e with
  | normal => exact hfin hq
  | ret => exact hfin hq
  | _ => exact hq.elim

@[go_sem] theorem put_some (fr : Fr) (d : Nat) (v : Value) : fr.put (some d) v = fr.set d v := rfl
@[go_sem] theorem put_none (fr : Fr) (v : Value) : fr.put none v = fr := rfl
@[go_sem] theorem eval_tmp (fr : Fr) (t : Nat) : fr.eval (.tmp t) = fr.ρ t := rfl
@[go_sem] theorem eval_const (fr : Fr) (v : Value) : fr.eval (.const v) = v := rfl
@[go_sem] theorem eval_func (fr : Fr) (f : Nat) : fr.eval (.func f) = .func (.func f) #[] #[] := rfl
@[go_sem] theorem set_ρ (fr : Fr) (d : Nat) (v : Value) (t : Nat) : (fr.set d v).ρ t = if t = d then v else fr.ρ t := rfl
def nthV : List Value → Nat → Value
  | [], _ => undef
  | v :: _, 0 => v
  | _ :: vs, t + 1 => nthV vs t
@[go_sem] theorem nthV_nil (t : Nat) : nthV [] t = undef := rfl
@[go_sem] theorem nthV_zero (v : Value) (vs : List Value) : nthV (v :: vs) 0 = v := rfl
@[go_sem] theorem nthV_succ (v : Value) (vs : List Value) (t : Nat) : nthV (v :: vs) (t + 1) = nthV vs t := rfl
theorem nthV_eq (vs : List Value) : ∀ t, nthV vs t = vs.getD t undef := by
  induction vs with
  | nil => intro t; simp [nthV]
  | cons v vs ih => intro t; cases t <;> simp [nthV, ih]
@[go_sem] theorem init_ρ (args : List Value) (t : Nat) : (initFr args.toArray).ρ t = nthV args t := by simp [initFr, nthV_eq]
attribute [go_sem] List.append_toArray List.nil_append List.cons_append List.append_nil List.map_cons List.map_nil List.size_toArray List.length_cons List.length_nil Nat.reduceAdd List.getElem?_toArray List.setIfInBounds_toArray List.set_cons_zero List.set_cons_succ List.getElem?_cons_zero List.getElem?_cons_succ
attribute [go_sem] Option.bind_some Option.some.injEq
@[go_sem] theorem set_ds (fr : Fr) (d : Nat) (v : Value) : (fr.set d v).ds = fr.ds := rfl
@[go_sem] theorem init_ds (args : Array Value) : (initFr args).ds = [] := rfl

def ReO (P : Program) (B : Env P) (ops : Array Oper) (o : Option Oper) (fr : Fr) (s : St) : Prop := match o with
  | none => True
  | some o => XOn P B true ops o fr s ⟨fun fr' s' => s' = s ∧ fr'.ρ (o.dst.getD 0) = fr.ρ (o.dst.getD 0), .mk⟩
section
variable {P : Program} {B : Env P} {r : Option Nat} {n : Nat} {pl : Nat → Option DPlan} {fr : Fr} {s : St} {Q : Kp (Exit → Fr → St → Prop)} {K : Kp (Fr → St → Prop)} {ops : Array Oper} {rest : List Oper}
@[go_sem ↓] theorem X_seq (a b : Code) : X P B r n pl (.seq a b) fr s Q = X P B r n pl a fr s ⟨thenQ (fun fr s => X P B r n pl b fr s Q) Q.K, .mk⟩ := rfl
@[go_sem ↓] theorem X_cond (c : Operand) (x y : Code) : X P B r n pl (.cond c x y) fr s Q = XC (fr.eval c) ⟨fun _ => X P B r n pl x (fr.know c true) s Q, .mk⟩ ⟨fun _ => X P B r n pl y (fr.know c false) s Q, .mk⟩ := rfl
@[go_sem ↓] theorem X_region (id : Nat) (ops : Array Oper) : X P B r n pl (.region id ops false) fr s Q = XOps P B ops ops.toList fr s ⟨fun fr s => Q .normal fr s, .mk⟩ := rfl
def XDr (P : Program) (B : Env P) (r : Option Nat) (n : Nat) (p : Option DPlan) (id : Nat) (ops : Array Oper) (fr : Fr) (s : St) (Q : Kp (Exit → Fr → St → Prop)) : Prop := match p with
    | some p => XPl P B ops p fr s ⟨fun fr s => Q.K .normal fr s, .mk⟩
    | none => WP P B r n (.region id ops true) fr s Q
@[go_sem ↓] theorem X_draw (id : Nat) (ops : Array Oper) : X P B r n pl (.region id ops true) fr s Q = XDr P B r n (pl id) id ops fr s Q := rfl
@[go_sem ↓] theorem XDr_some (p : DPlan) (id : Nat) (ops : Array Oper) : XDr P B r n (some p) id ops fr s Q = XPl P B ops p fr s ⟨fun fr s => Q.K .normal fr s, .mk⟩ := rfl
@[go_sem ↓] theorem XPl_done : XPl P B ops .done fr s K = K.K fr s := rfl
@[go_sem ↓] theorem XPl_tk (i : Nat) (l : List Nat) (p : DPlan) : XPl P B ops (tks (i :: l) p) fr s K = XAt P B true ops ops[i]? fr s ⟨fun fr' s' => s' = s ∧ XPl P B ops (tks l p) fr' s K, .mk⟩ := rfl
@[go_sem ↓] theorem XPl_tn (p : DPlan) : XPl P B ops (tks [] p) fr s K = XPl P B ops p fr s K := rfl
@[go_sem ↓] theorem XPl_one (i : Nat) (l : List Nat) (p : DPlan) : XPl P B ops (.one i l p) fr s K = XAt P B false ops ops[i]? fr s ⟨fun fr' s' => ReAll P B ops l fr' s' ∧ XPl P B ops p fr' s' K, .mk⟩ := rfl
@[go_sem ↓] theorem XPl_two (i j : Nat) (li lj : List Nat) (p q : DPlan) : XPl P B ops (.two i li p j lj q) fr s K = (XAt P B false ops ops[i]? fr s ⟨fun fr' s' => ReAll P B ops li fr' s' ∧ XPl P B ops p fr' s' K, .mk⟩ ∧
  XAt P B false ops ops[j]? fr s ⟨fun fr' s' => ReAll P B ops lj fr' s' ∧ XPl P B ops q fr' s' K, .mk⟩) := rfl
@[go_sem ↓] theorem XPl_three (i j k : Nat) (li lj lk : List Nat) (p q u : DPlan) : XPl P B ops (.three i li p j lj q k lk u) fr s K = (XAt P B false ops ops[i]? fr s ⟨fun fr' s' => ReAll P B ops li fr' s' ∧ XPl P B ops p fr' s' K, .mk⟩ ∧
  XAt P B false ops ops[j]? fr s ⟨fun fr' s' => ReAll P B ops lj fr' s' ∧ XPl P B ops q fr' s' K, .mk⟩ ∧
  XAt P B false ops ops[k]? fr s ⟨fun fr' s' => ReAll P B ops lk fr' s' ∧ XPl P B ops u fr' s' K, .mk⟩) := rfl
@[go_sem ↓] theorem ReAll_nil : ReAll P B ops [] fr s = True := rfl
@[go_sem ↓] theorem ReAll_cons (i : Nat) (l : List Nat) : ReAll P B ops (i :: l) fr s = (ReO P B ops ops[i]? fr s ∧ ReAll P B ops l fr s) := by
  simp only [ReAll, ReOne, ReO]; cases ops[i]? <;> rfl
@[go_sem ↓] theorem ReO_some (d : Nat) (o : Op) (ty : TypeId) (p : String) (af : Array Edge) (g : Option (Nat × Bool)) : ReO P B ops (some ⟨some d, o, ty, p, af, g⟩) fr s = XOn P B true ops ⟨some d, o, ty, p, af, g⟩ fr s ⟨fun fr' s' => s' = s ∧ fr'.ρ d = fr.ρ d, .mk⟩ := rfl
@[go_sem ↓] theorem XAt_some (dt : Bool) (d : Option Tmp) (o : Op) (ty : TypeId) (p : String) (af : Array Edge) : XAt P B dt ops (some ⟨d, o, ty, p, af, none⟩) fr s K = XOp P B dt fr.eval ⟨d, o, ty, p, af, none⟩ s ⟨fun v s' => K.K (fr.put d v) s', .mk⟩ := rfl
@[go_sem ↓] theorem XOn_plain (dt : Bool) (d : Option Tmp) (o : Op) (ty : TypeId) (p : String) (af : Array Edge) : XOn P B dt ops ⟨d, o, ty, p, af, none⟩ fr s K = XOp P B dt fr.eval ⟨d, o, ty, p, af, none⟩ s ⟨fun v s' => K.K (fr.put d v) s', .mk⟩ := rfl
def XOnG (P : Program) (B : Env P) (dt : Bool) (ops : Array Oper) (d : Option Tmp) (want : Bool) (o : Oper) (fr : Fr) (s : St) (K : Kp (Fr → St → Prop)) : Prop := match d with
    | none => K.K (fr.put o.dst undef) s
    | some d => XG (fr.ρ d) want ⟨fun _ => XOp P B dt (fr.set d (.bool want)).eval o s ⟨fun v s' => K.K ((fr.set d (.bool want)).put o.dst v) s', .mk⟩, .mk⟩
        ⟨fun _ => K.K ((fr.set d (.bool (!want))).put o.dst undef) s, .mk⟩ ⟨fun _ => K.K (fr.put o.dst undef) s, .mk⟩
@[go_sem ↓] theorem XAt_guard (dt : Bool) (d : Option Tmp) (o : Op) (ty : TypeId) (p : String) (af : Array Edge) (j : Nat) (want : Bool) : XAt P B dt ops (some ⟨d, o, ty, p, af, some (j, want)⟩) fr s K =
   XOnG P B dt ops ((ops[j]?).bind (·.dst)) want ⟨d, o, ty, p, af, some (j, want)⟩ fr s K := rfl
@[go_sem ↓] theorem XOn_guard (dt : Bool) (d : Option Tmp) (o : Op) (ty : TypeId) (p : String) (af : Array Edge) (j : Nat) (want : Bool) : XOn P B dt ops ⟨d, o, ty, p, af, some (j, want)⟩ fr s K =
   XOnG P B dt ops ((ops[j]?).bind (·.dst)) want ⟨d, o, ty, p, af, some (j, want)⟩ fr s K := rfl
@[go_sem ↓] theorem XOnG_some (dt : Bool) (d : Tmp) (want : Bool) (o : Oper) : XOnG P B dt ops (some d) want o fr s K = XG (fr.ρ d) want ⟨fun _ => XOp P B dt (fr.set d (.bool want)).eval o s ⟨fun v s' => K.K ((fr.set d (.bool want)).put o.dst v) s', .mk⟩, .mk⟩
        ⟨fun _ => K.K ((fr.set d (.bool (!want))).put o.dst undef) s, .mk⟩ ⟨fun _ => K.K (fr.put o.dst undef) s, .mk⟩ := rfl
@[go_sem ↓] theorem X_loop (c : Code) : X P B r n pl (.loop c) fr s Q = WP P B r n (.loop c) fr s Q := rfl
@[go_sem ↓] theorem X_ret : X P B r n pl .ret fr s Q = Q .ret fr s := rfl
@[go_sem ↓] theorem X_skip : X P B r n pl .skip fr s Q = Q .normal fr s := rfl
@[go_sem ↓] theorem X_exit (id : Nat) : X P B r n pl (.exit id) fr s Q = Q (.exit id) fr s := rfl
@[go_sem ↓] theorem X_block (id : Nat) (c : Code) : X P B r n pl (.block id c) fr s Q = X P B r n pl c fr s ⟨blockQ id Q.K, .mk⟩ := rfl
@[go_sem ↓] theorem XOps_nil : XOps P B ops [] fr s K = K fr s := rfl
@[go_sem ↓] theorem XOps_plain (d : Option Tmp) (o : Op) (ty : TypeId) (p : String) (af : Array Edge) : XOps P B ops (⟨d, o, ty, p, af, none⟩ :: rest) fr s K = XOp P B false fr.eval ⟨d, o, ty, p, af, none⟩ s ⟨fun v s' => XOps P B ops rest (fr.put d v) s' K, .mk⟩ := rfl
def XGd (P : Program) (B : Env P) (ops : Array Oper) (d : Option Tmp) (want : Bool) (o : Oper) (rest : List Oper) (fr : Fr) (s : St) (K : Kp (Fr → St → Prop)) : Prop := match d with
      | none => XOps P B ops rest (fr.put o.dst undef) s K
      | some d => XG (fr.ρ d) want
          ⟨fun _ => XOp P B false (fr.set d (.bool want)).eval o s ⟨fun v s' => XOps P B ops rest ((fr.set d (.bool want)).put o.dst v) s' K, .mk⟩, .mk⟩
          ⟨fun _ => XOps P B ops rest ((fr.set d (.bool (!want))).put o.dst undef) s K, .mk⟩
          ⟨fun _ => XOps P B ops rest (fr.put o.dst undef) s K, .mk⟩
@[go_sem ↓] theorem XOps_guard (d : Option Tmp) (o : Op) (ty : TypeId) (p : String) (af : Array Edge) (j : Nat) (want : Bool) : XOps P B ops (⟨d, o, ty, p, af, some (j, want)⟩ :: rest) fr s K =
   XGd P B ops ((ops[j]?).bind (·.dst)) want ⟨d, o, ty, p, af, some (j, want)⟩ rest fr s K := rfl
@[go_sem ↓] theorem XGd_some (d : Tmp) (want : Bool) (o : Oper) : XGd P B ops (some d) want o rest fr s K = XG (fr.ρ d) want
          ⟨fun _ => XOp P B false (fr.set d (.bool want)).eval o s ⟨fun v s' => XOps P B ops rest ((fr.set d (.bool want)).put o.dst v) s' K, .mk⟩, .mk⟩
          ⟨fun _ => XOps P B ops rest ((fr.set d (.bool (!want))).put o.dst undef) s K, .mk⟩
          ⟨fun _ => XOps P B ops rest (fr.put o.dst undef) s K, .mk⟩ := rfl
@[go_sem ↓] theorem thenQ_normal (K : Fr → St → Prop) (Q : Exit → Fr → St → Prop) : thenQ K Q .normal = K := rfl
@[go_sem ↓] theorem thenQ_ret (K : Fr → St → Prop) (Q : Exit → Fr → St → Prop) : thenQ K Q .ret = Q .ret := rfl
@[go_sem ↓] theorem thenQ_exit (K : Fr → St → Prop) (Q : Exit → Fr → St → Prop) (id : Nat) : thenQ K Q (.exit id) = Q (.exit id) := rfl
@[go_sem ↓] theorem blockQ_normal (Q : Exit → Fr → St → Prop) (id : Nat) : blockQ id Q .normal = Q .normal := rfl
@[go_sem ↓] theorem blockQ_ret (Q : Exit → Fr → St → Prop) (id : Nat) : blockQ id Q .ret = Q .ret := rfl
@[go_sem ↓] theorem blockQ_exit_eq (Q : Exit → Fr → St → Prop) (id : Nat) : blockQ id Q (.exit id) = Q .normal := by funext fr s; simp only [blockQ, if_true]
@[go_sem ↓] theorem blockQ_exit_ne (Q : Exit → Fr → St → Prop) {id id' : Nat} (h : id' ≠ id) : blockQ id Q (.exit id') = Q (.exit id') := by funext fr s; simp only [blockQ, if_neg h]
@[go_sem] theorem know_tmp (t : Nat) (b : Bool) : fr.know (.tmp t) b = fr.set t (.bool b) := rfl
@[go_sem ↓] theorem XC_true (A A' : Kp (Unit → Prop)) : XC (.bool true) A A' = A () := by simp [XC]
@[go_sem ↓] theorem XC_false (A A' : Kp (Unit → Prop)) : XC (.bool false) A A' = A' () := by simp [XC]
@[go_sem ↓] theorem XG_tt (A A' A'' : Kp (Unit → Prop)) : XG (.bool true) true A A' A'' = A () := by simp [XG]
@[go_sem ↓] theorem XG_tf (A A' A'' : Kp (Unit → Prop)) : XG (.bool true) false A A' A'' = A' () := by simp [XG]
@[go_sem ↓] theorem XG_ft (A A' A'' : Kp (Unit → Prop)) : XG (.bool false) true A A' A'' = A' () := by simp [XG]
@[go_sem ↓] theorem XG_ff (A A' A'' : Kp (Unit → Prop)) : XG (.bool false) false A A' A'' = A () := by simp [XG]
@[go_sem ↓] theorem XG_undef (want : Bool) (A A' A'' : Kp (Unit → Prop)) : XG undef want A A' A'' = A'' () := by simp [XG, undef]
def XBr (b : Bool) (A A' : Kp (Unit → Prop)) : Prop := (b = true → A.K ()) ∧ (b = false → A'.K ())
@[go_sem] theorem XC_bool (b : Bool) (A A' : Kp (Unit → Prop)) : XC (.bool b) A A' = XBr b A A' := rfl
@[go_sem ↓] theorem XBr_true (A A' : Kp (Unit → Prop)) : XBr true A A' = A () := by simp [XBr]
@[go_sem ↓] theorem XBr_false (A A' : Kp (Unit → Prop)) : XBr false A A' = A' () := by simp [XBr]
@[go_sem] theorem XBr_open (b : Bool) (A A' : Kp (Unit → Prop)) : XBr b A A' = ((b = true → A ()) ∧ (b = false → A' ())) := rfl
def XGb (b want : Bool) (A A' : Kp (Unit → Prop)) : Prop := (b = want → A.K ()) ∧ (b = !want → A'.K ())
@[go_sem] theorem XG_bool (b want : Bool) (A A' A'' : Kp (Unit → Prop)) : XG (.bool b) want A A' A'' = XGb b want A A' := rfl
@[go_sem ↓] theorem XGb_tt (A A' : Kp (Unit → Prop)) : XGb true true A A' = A () := by simp [XGb]
@[go_sem ↓] theorem XGb_tf (A A' : Kp (Unit → Prop)) : XGb true false A A' = A' () := by simp [XGb]
@[go_sem ↓] theorem XGb_ft (A A' : Kp (Unit → Prop)) : XGb false true A A' = A' () := by simp [XGb]
@[go_sem ↓] theorem XGb_ff (A A' : Kp (Unit → Prop)) : XGb false false A A' = A () := by simp [XGb]
@[go_sem] theorem XGb_open (b want : Bool) (A A' : Kp (Unit → Prop)) : XGb b want A A' = ((b = want → A ()) ∧ (b = !want → A' ())) := rfl
@[go_sem ↓] theorem retQ_ret (fn : Func) (R : Value → St → Prop) : retQ P fn R .ret = XEnd P fn R := rfl
@[go_sem ↓] theorem retQ_normal (fn : Func) (R : Value → St → Prop) : retQ P fn R .normal = XEnd P fn R := rfl
end

/-! ### states -/
section
variable {s : St}
@[go_sem] theorem upd_σ (b : Nat) (o : Obj) : (s.upd b o).σ = s.σ := rfl
theorem new_σ (o : Obj) : (s.new o).σ = s.σ := rfl
@[go_sem] theorem upd_n (b : Nat) (o : Obj) : (s.upd b o).n = s.n := rfl
theorem new_n (o : Obj) : (s.new o).n = s.n + 1 := rfl
@[go_sem] theorem upd_h_self (b : Nat) (o : Obj) : (s.upd b o).h b = some o := by simp [St.upd, TX.upd]
theorem new_h_self (o : Obj) : (s.new o).h s.n = some o := by simp [St.new, TX.upd]
@[go_sem] theorem upd_h_ne {b c : Nat} (o : Obj) (h : c ≠ b) : (s.upd b o).h c = s.h c := by simp [St.upd, TX.upd, h]
theorem new_h_ne {c : Nat} (o : Obj) (h : c ≠ s.n) : (s.new o).h c = s.h c := by simp [St.new, TX.upd, h]
theorem upd_at_self (b : Nat) (o : Obj) : (s.upd b o).at b = some o := by simp [St.at, upd_h_self]
theorem new_at_self (o : Obj) : (s.new o).at s.n = some o := by simp [St.at, new_h_self]
theorem upd_at_ne {b c : Nat} (o : Obj) (h : c ≠ b) : (s.upd b o).at c = s.at c := by simp [St.at, upd_h_ne o h, upd_σ]
theorem new_at_ne {c : Nat} (o : Obj) (h : c ≠ s.n) : (s.new o).at c = s.at c := by simp [St.at, new_h_ne o h, new_σ]
theorem at_of_h {b : Nat} {o : Obj} (h : s.h b = some o) : s.at b = some o := by simp [St.at, h]
/-- a new block, and how many there are then -/
def St.lay (s : St) (b : Nat) (o : Obj) (n : Nat) : St := ⟨s.σ, TX.upd s.h b o, n⟩
@[go_sem] theorem new_lay (o : Obj) : s.new o = s.lay s.n o (s.n + 1) := rfl
@[go_sem] theorem lay_σ (b : Nat) (o : Obj) (n : Nat) : (s.lay b o n).σ = s.σ := rfl
@[go_sem] theorem lay_n (b : Nat) (o : Obj) (n : Nat) : (s.lay b o n).n = n := rfl
@[go_sem] theorem lay_h_self (b : Nat) (o : Obj) (n : Nat) : (s.lay b o n).h b = some o := by simp [St.lay, TX.upd]
@[go_sem] theorem lay_h_ne {b c : Nat} (o : Obj) (n : Nat) (h : c ≠ b) : (s.lay b o n).h c = s.h c := by simp [St.lay, TX.upd, h]
@[go_sem] theorem lay_upd (b n : Nat) (o o' : Obj) : (s.lay b o n).upd b o' = s.lay b o' n := by
  simp only [St.upd, St.lay, St.mk.injEq, true_and, and_true]; funext c; simp only [TX.upd]; split <;> rfl
/-- the owned blocks first -/
def atF (a b : Option Obj) : Option Obj := match a with | some o => some o | none => b
@[go_sem] theorem atF_some (o : Obj) (b : Option Obj) : atF (some o) b = some o := rfl
@[go_sem] theorem atF_none (b : Option Obj) : atF none b = b := rfl
@[go_sem] theorem at_eq (b : Nat) : s.at b = atF (s.h b) (s.σ b) := rfl
@[go_sem] theorem ld_eq (a : Addr) : s.ld a = cellOf (s.at a.block) a := rfl
@[go_sem] theorem cellOf_cells (c : Array Value) (T : TypeId) (fz : Nat × Nat) (b off : Nat) : cellOf (some (.cells c T fz)) ⟨b, off, none⟩ = c[off]? := rfl
@[go_sem] theorem add_mk (b off k : Nat) : (⟨b, off, none⟩ : Addr).add k = ⟨b, off + k, none⟩ := by unfold Addr.add; split <;> simp_all
@[go_sem] theorem upd_upd (b : Nat) (o o' : Obj) : (s.upd b o).upd b o' = s.upd b o' := by
  simp only [St.upd, St.mk.injEq, true_and, and_true]; funext c; simp only [TX.upd]; split <;> rfl
theorem new_upd (o o' : Obj) : (s.new o).upd s.n o' = s.new o' := by
  simp only [St.upd, St.new, St.mk.injEq, true_and, and_true]; funext c; simp only [TX.upd]; split <;> rfl
end
@[go_sem] theorem cells_int (k : IntKind) (n : Int) : (Value.int k n).cells = #[.int k n] := rfl
@[go_sem] theorem cells_bool (b : Bool) : (Value.bool b).cells = #[.bool b] := rfl
@[go_sem] theorem cells_str (b : ByteArray) : (Value.string b).cells = #[.string b] := rfl
@[go_sem] theorem cells_ptr (b : Option Addr) : (Value.pointer b).cells = #[.pointer b] := rfl
@[go_sem] theorem cells_slice (b : Option Addr) (n c : Nat) : (Value.slice b n c).cells = #[.slice b n c] := rfl
@[go_sem] theorem cells_map (b : Option Nat) : (Value.map b).cells = #[.map b] := rfl
@[go_sem] theorem cells_func (f : Fn) (a b : Array Value) : (Value.func f a b).cells = #[.func f a b] := rfl
@[go_sem] theorem cells_agg (b : Array Value) : (Value.agg b).cells = b := rfl
attribute [go_sem] oneCell
/-! ### ends -/
section
variable {P : Program} {fr : Fr} {s : St}
@[go_sem ↓] theorem XEnd_eq (fn : Func) (R : Value → St → Prop) : XEnd P fn R fr s = (fr.ds = [] ∧ XRs P fr s fn.results.toList ⟨fun vs => R (tupled vs) s, .mk⟩) := rfl
@[go_sem ↓] theorem XRs_nil (K : Kp (List Value → Prop)) : XRs P fr s [] K = K [] := rfl
@[go_sem ↓] theorem XRs_cell (a : Nat) (t : TypeId) (rs : List ResultVar) (K : Kp (List Value → Prop)) : XRs P fr s (.cell a t :: rs) K = XLoad P t (fr.ρ a) s ⟨fun v => XRs P fr s rs ⟨fun vs => K (v :: vs), .mk⟩, .mk⟩ := rfl
@[go_sem ↓] theorem XRs_tmp (t : Nat) (rs : List ResultVar) (K : Kp (List Value → Prop)) : XRs P fr s (.tmp t :: rs) K = XVal (fr.ρ t) ⟨fun v => XRs P fr s rs ⟨fun vs => K (v :: vs), .mk⟩, .mk⟩ := rfl
end
def XLoad' (P : Program) (o : Option (Option Nat)) (v : Value) (s : St) (K : Kp (Value → Prop)) : Prop := match v with
  | .pointer (some a) => match o with
    | some (some n) => XLs (ldN s a 0 n) ⟨fun cs => K (.agg cs), .mk⟩
    | some none => XLd (s.ld a) K
    | none => False
  | _ => False
@[go_sem ↓] theorem XLoad_eq (P : Program) (t : TypeId) (v : Value) (s : St) (K : Kp (Value → Prop)) : XLoad P t v s K = XLoad' P (aggSize P t) v s K := rfl
@[go_sem] theorem XLoad_agg (P : Program) (a : Addr) (n : Nat) (s : St) (K : Kp (Value → Prop)) : XLoad' P (some (some n)) (.pointer (some a)) s K = XLs (ldN s a 0 n) ⟨fun cs => K (.agg cs), .mk⟩ := rfl
@[go_sem] theorem XLoad_one (P : Program) (a : Addr) (s : St) (K : Kp (Value → Prop)) : XLoad' P (some none) (.pointer (some a)) s K = XLd (s.ld a) K := rfl
attribute [go_sem] ldN_succ
@[go_sem] theorem tupled_one (v : Value) : tupled [v] = v := rfl
@[go_sem] theorem tupled_two (v w : Value) (l : List Value) : tupled (v :: w :: l) = .tuple (v :: w :: l).toArray := rfl
@[go_sem] theorem tupled_none : tupled [] = .tuple #[] := rfl
end Go.Proofs.TX
