/- More on states: a block that is owned, written; what a loop leaves alone. -/
import Derived.Test.YtfndoonmgilklaaGreatDoorXBundle
import Derived.Laws.Append
namespace Go.Proofs.TX
open Go
theorem upd_wf {s : St} (hw : s.wf) {b : Nat} {o0 : Obj} (hb : s.h b = some o0) (o : Obj) : (s.upd b o).wf := by
  refine ⟨fun c o' hc => ?_, fun c o' hc => ?_⟩
  · by_cases e : c = b
    · subst e; exact hw.lt_h hb
    · rw [upd_at_ne _ e] at hc; exact hw.lt c o' hc
  · by_cases e : c = b
    · subst e; exact hw.dis _ _ hb
    · rw [upd_h_ne _ e] at hc; exact hw.dis c o' hc
theorem more_upd (s : St) (k b : Nat) (o : Obj) : (s.more k).upd b o = (s.upd b o).more k := rfl
theorem Ext.upd2 {s t : St} (h : Ext s t) (b : Nat) (o : Obj) : Ext (s.upd b o) (t.upd b o) :=
  ⟨h.σ, h.n, fun c hc => by
    by_cases e : c = b
    · subst e; rw [upd_h_self, upd_h_self]
    · rw [upd_h_ne _ e, upd_h_ne _ e]; exact h.h c hc⟩
theorem Ext.trans {s t u : St} (h : Ext s t) (h2 : Ext t u) : Ext s u := ⟨fun b o hb => h2.σ b o (h.σ b o hb), Nat.le_trans h.n h2.n, fun b hb => (h2.h b (Nat.lt_of_lt_of_le hb h.n)).trans (h.h b hb)⟩
/-- the same, but for one block -/
theorem drop_upd {s t : St} {R : Value → St → Prop} {v : Value} (hw : s.wf) {b : Nat} {o0 o : Obj} (hb : s.h b = some o0) (h : Ext (s.upd b o) t) (hr : ∀ n, s.n ≤ n → R v ((s.upd b o).more n)) : Drop R v t :=
  drop_ext (upd_wf hw hb o) h hr
/-- a call's end: here simp stands still (it would enter nested binders, and visit each twice) -/
def XMore (s : St) (v : Value) (K : Kp (Value → St → Prop)) : Prop := ∀ k, K.K v (s.more (s.n + k))
theorem XMore_intro {s : St} {v : Value} {K : Kp (Value → St → Prop)} (h : ∀ k, K.K v (s.more (s.n + k))) : XMore s v K := h
/-- what is written by code -/
def wrt : Code → List Nat
  | .region _ ops _ => ops.toList.filterMap (·.dst) ++ ops.toList.filterMap fun o => o.guard.bind fun g => (ops[g.1]?).bind (·.dst)
  | .seq a b => wrt a ++ wrt b
  | .cond c a b => (match c with | .tmp t => [t] | _ => []) ++ wrt a ++ wrt b
  | .block _ c => wrt c
  | .loop c => wrt c
  | .scope c => wrt c
  | .rangeFunc _ _ a b => wrt a ++ wrt b
  | _ => []
end Go.Proofs.TX
/- A slice that grows by append. -/
namespace Go.Proofs.TX
open Go
/-- what is ahead of lo, and some blocks, stay as they are -/
structure Keep (lo : Nat) (av : List Nat) (t t' : St) : Prop where
  σ : t'.σ = t.σ
  n : t.n ≤ t'.n
  h : ∀ c, c < lo ∨ c ∈ av → t'.h c = t.h c
  wf : t.wf → t'.wf
theorem new_wf {s : St} (hw : s.wf) (o : Obj) : (s.new o).wf := by
  refine ⟨fun c o' hc => ?_, fun c o' hc => ?_⟩
  · by_cases e : c = s.n
    · subst e; simp [new_n]
    · rw [new_at_ne _ e] at hc; have := hw.lt c o' hc; rw [new_n]; omega
  · by_cases e : c = s.n
    · subst e
      cases hx : s.σ s.n with
      | none => exact hx
      | some x => have := hw.lt_σ hx; omega
    · rw [new_h_ne _ e] at hc; exact hw.dis c o' hc
theorem Keep.ext {s t t' : St} {av : List Nat} (h : Keep s.n av t t') (he : Ext s t) : Ext s t' :=
  ⟨fun b o hb => by rw [h.σ]; exact he.σ b o hb, Nat.le_trans he.n h.n, fun b hb => by rw [h.h b (.inl hb)]; exact he.h b hb⟩
/-- a slice of one's own, rows of k cells -/
def SlH (t : St) (lo : Nat) (av : List Nat) (T : TypeId) (k : Nat) (v : Value) (rows : List (List Value)) : Prop :=
  (rows = [] ∧ v = .slice none 0 0) ∨ ∃ b c rest, v = .slice (some ⟨b, 0, none⟩) rows.length c ∧ lo ≤ b ∧ b < t.n ∧ b ∉ av ∧ t.h b = some (.cells (rows.flatten ++ rest).toArray T (0, 0)) ∧
    rows.length ≤ c ∧ rest.length = k * (c - rows.length) ∧ ∀ r ∈ rows, r.length = k
theorem flatten_rows {k : Nat} : ∀ {rows : List (List Value)}, (∀ r ∈ rows, r.length = k) → rows.flatten.length = rows.length * k
  | [], _ => by simp
  | r :: rows, h => by
    have := flatten_rows (rows := rows) fun x hx => h x (by simp [hx])
    simp only [List.flatten_cons, List.length_append, List.length_cons, this, h r (by simp), Nat.succ_mul]; omega
theorem append_one {t : St} {lo : Nat} {av : List Nat} {T : TypeId} {k bytes : Nat} {z row : List Value} {base : Option Addr} {n c : Nat} {x : Value} {rows : List (List Value)} {K : Value → St → Prop}
    (hv : SlH t lo av T k (.slice base n c) rows) (hlo : lo ≤ t.n) (hav : ∀ c ∈ av, c < t.n) (hz : z.length = k) (hx : rdS t k x = some row) (hr : row.length = k) (hk : 0 < k) (h1 : ∀ v ∈ row, oneCell v = true) (hb : (rows.length + 1) * bytes ≤ 140737488355328)
    (hK : ∀ v' t', SlH t' lo av T k v' (rows ++ [row]) → Keep lo av t t' → K v' t') : XApA false T z k bytes base n c 1 x t ⟨K, .mk⟩ := by
  have hn : n = rows.length := by
    rcases hv with ⟨rfl, e⟩ | ⟨b, c', rest, e, _⟩
    · cases e; rfl
    · cases e; rfl
  have hcap : c < n + 1 → Builtin.nextslicecap (n + 1) c * bytes ≤ 2 ^ 48 := by
    intro hc
    have h2 := nextslicecap_le hc
    have h3 : Builtin.nextslicecap (n + 1) c * bytes ≤ 2 * (n + 1) * bytes := Nat.mul_le_mul_right _ h2
    rw [hn] at h3 ⊢
    have : 2 * (rows.length + 1) * bytes = 2 * ((rows.length + 1) * bytes) := by rw [Nat.mul_assoc]
    omega
  unfold XApA
  rcases hv with ⟨rfl, e⟩ | ⟨b, c', rest, e, hlb, hbn, hbav, hcells, hlen, hrest, hrows⟩
  · cases e
    refine ⟨fun h => by omega, fun h => ⟨hcap h, rfl, ?_⟩⟩
    simp only [rdS_none, XLi_some, hx]
    intro r _
    refine hK _ _ (.inr ⟨t.n, 0 + 1 + r, rep z r, by simp, hlo, by simp [new_n], fun h => Nat.lt_irrefl _ (hav _ h), ?_, by simp, ?_, ?_⟩) ⟨rfl, by simp [new_n], ?_, fun h => new_wf h _⟩
    · rw [new_h_self]; simp
    · rw [rep_length, hz, Nat.mul_comm]; simp
    · intro r' hr'; simp at hr'; subst hr'; exact hr
    · intro c hc
      rcases hc with hc | hc
      · exact new_h_ne _ (by omega)
      · exact new_h_ne _ (by have := hav c hc; omega)
  · cases e
    have hfl := flatten_rows hrows
    constructor
    · intro hc
      simp only [hx, XLi_some]
      have hoff : (⟨b, 0, none⟩ : Addr).add (rows.length * k) = ⟨b, rows.length * k, none⟩ := by rw [add_mk]; simp
      rw [hoff]
      obtain ⟨d, hd⟩ : ∃ d, c - rows.length = d + 1 := ⟨c - rows.length - 1, by omega⟩
      rw [hd, Nat.mul_succ] at hrest
      have hle : rows.length * k + row.length ≤ (rows.flatten ++ rest).length := by
        rw [List.length_append, hfl, hr, hrest]; omega
      rw [XSto_cells (a := ⟨b, rows.length * k, none⟩) (T := T) rfl _ row 0 t (rows.flatten ++ rest) hcells (by simpa using hle) h1]
      have hrne : row ≠ [] := by rintro rfl; simp at hr; omega
      simp only [hrne, if_false, Nat.add_zero]
      have hspl : spl (rows.flatten ++ rest) (rows.length * k) row = (rows ++ [row]).flatten ++ rest.drop k := by
        unfold spl
        rw [← hfl, List.take_left', List.drop_append, List.drop_of_length_le (by omega), hr, hfl]
        · simp [List.append_assoc]
        · rfl
      rw [hspl]
      refine hK _ _ (.inr ⟨b, c, rest.drop k, by simp, hlb, hbn, hbav, upd_h_self _ _, by simp; omega, ?_, ?_⟩) ⟨rfl, Nat.le_refl _, ?_, fun h => upd_wf h hcells _⟩
      · rw [List.length_drop, hrest, List.length_append, List.length_singleton]
        have : c - (rows.length + 1) = d := by omega
        rw [this]; omega
      · intro r' hr'
        rcases List.mem_append.1 hr' with h | h
        · exact hrows r' h
        · simp at h; subst h; exact hr
      · intro e he
        rcases he with he | he
        · exact upd_h_ne _ (by omega)
        · exact upd_h_ne _ (fun x => hbav (x ▸ he))
    · intro hc
      refine ⟨hcap hc, rfl, ?_⟩
      have hold : rdS t k (.slice (some ⟨b, 0, none⟩) rows.length c) = some rows.flatten := by
        rw [rdS_some, ldN_cells (c := rows.flatten ++ rest) (at_of_h hcells) rfl (rows.length * k) 0 (by simp only [Nat.zero_add, List.length_append, hfl]; omega)]
        simp [← hfl]
      simp only [hold, XLi_some, hx]
      intro r _
      refine hK _ _ (.inr ⟨t.n, rows.length + 1 + r, rep z r, by simp, hlo, by simp [new_n], fun h => Nat.lt_irrefl _ (hav _ h), ?_, by simp, ?_, ?_⟩) ⟨rfl, by simp [new_n], ?_, fun h => new_wf h _⟩
      · rw [new_h_self]; simp
      · rw [rep_length, hz, Nat.mul_comm]; congr 1; simp
      · intro r' hr'
        rcases List.mem_append.1 hr' with h | h
        · exact hrows r' h
        · simp at h; subst h; exact hr
      · intro c hc
        rcases hc with hc | hc
        · exact new_h_ne _ (by omega)
        · exact new_h_ne _ (by have := hav c hc; omega)
/-- what a slice of one's own holds -/
theorem SlH.keep {t t' : St} {lo : Nat} {av : List Nat} {T : TypeId} {k : Nat} {v : Value} {rows : List (List Value)} (h : SlH t lo av T k v rows) (hn : t.n ≤ t'.n) (hh : ∀ c, lo ≤ c → c ∉ av → c < t.n → t'.h c = t.h c) : SlH t' lo av T k v rows := by
  rcases h with h | ⟨b, c, rest, e, h1, h2, h3, h4, h5⟩
  · exact .inl h
  · exact .inr ⟨b, c, rest, e, h1, by omega, h3, by rw [hh b h1 h3 h2]; exact h4, h5⟩
theorem SlH.mono {t : St} {lo lo' : Nat} {av av' : List Nat} {T : TypeId} {k : Nat} {v : Value} {rows : List (List Value)} (h : SlH t lo av T k v rows) (hl : ∀ b, lo ≤ b → b ∉ av → lo' ≤ b ∧ b ∉ av') : SlH t lo' av' T k v rows := by
  rcases h with h | ⟨b, c, rest, e, h1, h2, h3, h4⟩
  · exact .inl h
  · exact .inr ⟨b, c, rest, e, (hl b h1 h3).1, h2, (hl b h1 h3).2, h4⟩
theorem SlH.slice {t : St} {lo : Nat} {av : List Nat} {T : TypeId} {k : Nat} {v : Value} {rows : List (List Value)} (h : SlH t lo av T k v rows) : ∃ base c, v = .slice base rows.length c := by
  rcases h with ⟨rfl, e⟩ | ⟨b, c, rest, e, _⟩
  · exact ⟨none, 0, e⟩
  · exact ⟨_, c, e⟩
end Go.Proofs.TX
