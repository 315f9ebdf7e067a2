/- The text layer's functions: Script. -/
import Derived.Test.YtfndoonmgilklaaGreatDoorXT18
set_option linter.unusedSimpArgs false
set_option linter.unusedVariables false
set_option maxRecDepth 100000
set_option maxHeartbeats 4000000
namespace Go.Proofs.TX
open Go
/-- a row of ops that is only read -/
def OpsAt (s : St) (v : Value) (l : List OpS) : Prop := (l = [] ∧ ∃ base c, v = .slice base 0 c) ∨ ∃ b off c C T fz, v = .slice (some ⟨b, off, none⟩) l.length c ∧ s.h b = none ∧ s.σ b = some (.cells C T fz) ∧
  ∀ i o, l[i]? = some o → ∀ j v, o.cells[j]? = some v → C[off + (i * 11 + j)]? = some v
theorem OpsAt.ext {s t : St} {v : Value} {l : List OpS} (h : OpsAt s v l) (hw : s.wf) (he : Ext s t) : OpsAt t v l := by
  rcases h with h | ⟨b, off, c, C, T, fz, rfl, h1, h2, h3⟩
  · exact .inl h
  · exact .inr ⟨b, off, c, C, T, fz, rfl, by rw [he.h b (hw.lt_σ h2)]; exact h1, he.σ _ _ h2, h3⟩
theorem OpsAt.slice {s : St} {v : Value} {l : List OpS} (h : OpsAt s v l) : ∃ base c, v = .slice base l.length c := by
  rcases h with ⟨rfl, b, c, e⟩ | ⟨b, off, c, C, T, fz, e, _⟩
  · exact ⟨b, c, e⟩
  · exact ⟨_, c, e⟩
def lineSp : Spec where
  run args s K := ∃ o : OpS, args = #[o.val] ∧ o.ok ∧ ∀ n, s.n ≤ n → K.K (lineV o) (s.more n)
  mono args s K K' h := fun ⟨o, h1, h2, h3⟩ => ⟨o, h1, h2, fun n hn => h _ _ (h3 n hn)⟩
theorem line_c (B : World) (hB : Good B) : ∀ args s K, lineSp.run args s K → CallOK Tryz.prog B 12 args s K.K := by
  rintro args s K ⟨o, rfl, h1, h2⟩
  exact line_c' B hB o h1 s _ h2
def wsSp : Spec where
  run args s K := ∃ (a lo : Nat) (acc l : Bs), args = #[.pointer (some ⟨a, 0, none⟩), str l] ∧ lo ≤ s.n ∧ a < lo ∧ Bld s a lo acc ∧ acc.length + l.length ≤ 140737488355328 ∧
    ∀ s' : St, s'.σ = s.σ → s.n ≤ s'.n → (∀ c, c < lo → c ≠ a → s'.h c = s.h c) → Bld s' a lo (acc ++ l) → K.K (.tuple #[.int .i64 l.length, .nilIface]) s'
  mono args s K K' h := fun ⟨a, lo, acc, l, h1, h2, h3, h4, h5, h6⟩ => ⟨a, lo, acc, l, h1, h2, h3, h4, h5, fun s' a b c d => h _ _ (h6 s' a b c d)⟩
theorem ws_c (B : World) : ∀ args s K, wsSp.run args s K → CallOK Tryz.prog B 14 args s K.K := by
  rintro args s K ⟨a, lo, acc, l, rfl, h2, h3, h4, h5, h6⟩
  exact writeString_c B a lo acc l s _ h2 h3 h4 h5 h6
def strSp : Spec where
  run args s K := ∃ (a lo : Nat) (acc : Bs), args = #[.pointer (some ⟨a, 0, none⟩)] ∧ a < lo ∧ Bld s a lo acc ∧ acc.length ≤ 140737488355328 ∧ (acc = [] → s.h a = some (.cells #[.pointer none, .slice none 0 0] 46)) ∧
    ∀ s' : St, s'.σ = s.σ → s.n ≤ s'.n → (∀ c, c < lo → s'.h c = s.h c) → K.K (str acc) s'
  mono args s K K' h := fun ⟨a, lo, acc, h1, h2, h3, h4, h5, h6⟩ => ⟨a, lo, acc, h1, h2, h3, h4, h5, fun s' a b c => h _ _ (h6 s' a b c)⟩
theorem str_c (B : World) : ∀ args s K, strSp.run args s K → CallOK Tryz.prog B 15 args s K.K := by
  rintro args s K ⟨a, lo, acc, rfl, h2, h3, h4, h5, h6⟩
  exact string_c B a lo acc s _ h2 h3 h4 h5 h6
noncomputable def eScript (B : World) (hB : Good B) : Env Tryz.prog := (((Env.base Tryz.prog B).ext 12 lineSp (line_c B hB)).ext 14 wsSp (ws_c B)).ext 15 strSp (str_c B)
theorem eScript_12 (B : World) (hB : Good B) (args : Array Value) (s : St) (K : Kp (Value → St → Prop)) : XCallOK Tryz.prog (eScript B hB) 12 args s K = lineSp.run args s K := rfl
theorem eScript_14 (B : World) (hB : Good B) (args : Array Value) (s : St) (K : Kp (Value → St → Prop)) : XCallOK Tryz.prog (eScript B hB) 14 args s K = wsSp.run args s K := rfl
theorem eScript_15 (B : World) (hB : Good B) (args : Array Value) (s : St) (K : Kp (Value → St → Prop)) : XCallOK Tryz.prog (eScript B hB) 15 args s K = strSp.run args s K := rfl
def scriptV (l : List OpS) : Value := match scriptS l with | some t => .tuple #[str t, .int .i64 0] | none => .tuple #[str [], .int .i64 1]
theorem lineS_length {o : OpS} (ho : o.ok) {t : Bs} (h : lineS o = some t) : 1 ≤ t.length ∧ t.length ≤ 200 := by
  obtain ⟨h1, _, _, rfl⟩ := lineS_some h
  have := tailS_length ho (opUses o.dO)
  have := opUses_length o.dO
  have := opName_length o.dO
  have h2 : 1 ≤ (opName o.dO).length := by cases hn : opName o.dO <;> simp_all
  rw [List.length_append]; omega
theorem script_c' (B : World) (hB : Good B) (l : List OpS) (hl : l.length ≤ 1000000) (hok : ∀ o ∈ l, o.ok) (v : Value) (s : St) (R : Value → St → Prop) (hv : OpsAt s v l) (h : ∀ n, s.n ≤ n → R (scriptV l) (s.more n)) : CallOK Tryz.prog B 6 #[v] s R := by
  obtain ⟨base, c, rfl⟩ := hv.slice
  refine call_of (eScript B hB) (fun _ => none) mixed Tryz.func6 rfl (by simp [Tryz.ntmps6]) (by kernel_rfl) fun hw => ?_
  simp (maxSteps := 2000000) -dsimp (disch := omega) only [↓Tryz.ntmps6, ↓res6, ↓xpre0, xpost0, xpost1, xpost2, xpost3, facts0, facts1, calls0, St.wf.none hw, Nat.add_assoc, ↓reduceIte, Nat.reduceEqDiff, Nat.reduceMul, Nat.reduceAdd, Nat.reduceSub, Nat.reduceLeDiff, Nat.reduceLT, Int.reduceBEq, Int.reduceBNe, Int.reduceEq, Int.reduceNe, Int.reduceLT, Int.reduceLE, Int.reduceToNat, Int.reduceAdd, Int.reduceSub, Int.reduceMul, Int.cast_ofNat_Int]
  refine loop_wf (pl := fun _ => none) mixed (by kernel_rfl) (fun m fr t => ∃ i acc, i ≤ l.length ∧ m = l.length - i ∧ fr.ds = [] ∧ Ext s t ∧ s.n < t.n ∧
      fr.ρ 4 = .pointer (some ⟨s.n, 0, none⟩) ∧ fr.ρ 9 = .slice base l.length c ∧ fr.ρ 10 = .int .i64 l.length ∧ fr.ρ 11 = .int .i64 (i : Nat) ∧
      Bld t s.n (s.n + 1) acc ∧ (acc = [] → t.h s.n = some (.cells #[.pointer none, .slice none 0 0] 46)) ∧ acc.length ≤ 201 * i ∧ scriptS l = (scriptS (l.drop i)).map fun r => acc ++ r) l.length ?_ ?_
  · refine ⟨0, [], Nat.zero_le _, rfl, rfl, ?_, ?_, rfl, rfl, rfl, rfl, ⟨_, _, .inl rfl, ?_, .inl ⟨rfl, rfl⟩⟩, fun _ => ?_, by simp, ?_⟩
    · (repeat (first | with_reducible exact Ext.refl _ | with_reducible assumption | refine Ext.lay ?_ _ _ _ (by omega) (by first | omega | (simp only [lay_n, upd_n, more_n, froz_n]; omega)) | refine Ext.upd ?_ _ _ (by omega) | refine Ext.more ?_ _ (by first | omega | (simp only [lay_n, upd_n, more_n, froz_n]; omega)) | refine Ext.frz ?_ hw _ _ _ (by omega) (by first | omega | (simp only [lay_n, upd_n, more_n, froz_n]; omega))))
    · simp (maxSteps := 2000000) -dsimp (disch := omega) only [↓xpre0, xpost0, xpost1, xpost2, xpost3, facts0, facts1, calls0, St.wf.none hw, Nat.add_assoc, ↓reduceIte, Nat.reduceEqDiff, Nat.reduceMul, Nat.reduceAdd, Nat.reduceSub, Nat.reduceLeDiff, Nat.reduceLT, Int.reduceBEq, Int.reduceBNe, Int.reduceEq, Int.reduceNe, Int.reduceLT, Int.reduceLE, Int.reduceToNat, Int.reduceAdd, Int.reduceSub, Int.reduceMul, Int.cast_ofNat_Int]
      try omega
    · simp (maxSteps := 2000000) -dsimp (disch := omega) only [↓xpre0, xpost0, xpost1, xpost2, xpost3, facts0, facts1, calls0, St.wf.none hw, Nat.add_assoc, ↓reduceIte, Nat.reduceEqDiff, Nat.reduceMul, Nat.reduceAdd, Nat.reduceSub, Nat.reduceLeDiff, Nat.reduceLT, Int.reduceBEq, Int.reduceBNe, Int.reduceEq, Int.reduceNe, Int.reduceLT, Int.reduceLE, Int.reduceToNat, Int.reduceAdd, Int.reduceSub, Int.reduceMul, Int.cast_ofNat_Int]
    · simp (maxSteps := 2000000) -dsimp (disch := omega) only [↓xpre0, xpost0, xpost1, xpost2, xpost3, facts0, facts1, calls0, St.wf.none hw, Nat.add_assoc, ↓reduceIte, Nat.reduceEqDiff, Nat.reduceMul, Nat.reduceAdd, Nat.reduceSub, Nat.reduceLeDiff, Nat.reduceLT, Int.reduceBEq, Int.reduceBNe, Int.reduceEq, Int.reduceNe, Int.reduceLT, Int.reduceLE, Int.reduceToNat, Int.reduceAdd, Int.reduceSub, Int.reduceMul, Int.cast_ofNat_Int]
    · rw [List.drop_zero]; cases scriptS l <;> simp
  · rintro m fr t ht ⟨i, acc, hi, rfl, hds, hext, hn, h4, h9, h10, h11, hb, h0, hacc, hs⟩
    by_cases hlt : i < l.length
    · have hlt' : (i : Int) < (l.length : Int) := by omega
      have hwr : IntKind.i64.wrap ((i : Int) + 1) = ((i + 1 : Nat) : Int) := by rw [wrap_i64 (by omega) (by omega)]; omega
      rcases hv.ext hw hext with ⟨e, _⟩ | ⟨b, off, c', C, T, fz, e, hb1, hb2, hC⟩
      · rw [e] at hlt; simp at hlt
      · cases e
        have hgo : l[i]? = some l[i] := List.getElem?_eq_getElem hlt
        have hoko := hok l[i] (List.getElem_mem hlt)
        have hcs := hC i _ hgo
        rw [List.drop_eq_getElem_cons hlt] at hs
        generalize l[i] = o at hgo hoko hcs hs
        have c0 := hcs 0 _ rfl
        have c1 := hcs 1 _ rfl
        have c2 := hcs 2 _ rfl
        have c3 := hcs 3 _ rfl
        have c4 := hcs 4 _ rfl
        have c5 := hcs 5 _ rfl
        have c6 := hcs 6 _ rfl
        have c7 := hcs 7 _ rfl
        have c8 := hcs 8 _ rfl
        have c9 := hcs 9 _ rfl
        have c10 := hcs 10 _ rfl
        simp (maxSteps := 2000000) -dsimp (disch := omega) only [h4, h9, h10, h11, hds, hlt', hwr, hb1, hb2, Int.toNat_natCast, c0, c1, c2, c3, c4, c5, c6, c7, c8, c9, c10, eScript_12, ↓Tryz.ntmps6, ↓res6, ↓xpre0, xpost0, xpost1, xpost2, xpost3, facts0, facts1, calls0, St.wf.none hw, Nat.add_assoc, ↓reduceIte, Nat.reduceEqDiff, Nat.reduceMul, Nat.reduceAdd, Nat.reduceSub, Nat.reduceLeDiff, Nat.reduceLT, Int.reduceBEq, Int.reduceBNe, Int.reduceEq, Int.reduceNe, Int.reduceLT, Int.reduceLE, Int.reduceToNat, Int.reduceAdd, Int.reduceSub, Int.reduceMul, Int.cast_ofNat_Int]
        refine ⟨by omega, fun _ => ⟨o, rfl, hoko, fun n hn2 => ?_⟩⟩
        simp only [lay_n] at hn2
        cases hlo : lineS o with
        | none =>
          simp only [lineV, hlo]
          simp (maxSteps := 2000000) -dsimp (disch := omega) only [h4, h9, h10, h11, hds, ↓Tryz.ntmps6, ↓res6, ↓xpre0, xpost0, xpost1, xpost2, xpost3, facts0, facts1, calls0, St.wf.none hw, Nat.add_assoc, ↓reduceIte, Nat.reduceEqDiff, Nat.reduceMul, Nat.reduceAdd, Nat.reduceSub, Nat.reduceLeDiff, Nat.reduceLT, Int.reduceBEq, Int.reduceBNe, Int.reduceEq, Int.reduceNe, Int.reduceLT, Int.reduceLE, Int.reduceToNat, Int.reduceAdd, Int.reduceSub, Int.reduceMul, Int.cast_ofNat_Int]
          refine drop_ext hw ?_ (fun n hn => ?_)
          · (repeat (first | with_reducible exact Ext.refl _ | with_reducible assumption | refine Ext.lay ?_ _ _ _ (by omega) (by first | omega | (simp only [lay_n, upd_n, more_n, froz_n]; omega)) | refine Ext.upd ?_ _ _ (by omega) | refine Ext.more ?_ _ (by first | omega | (simp only [lay_n, upd_n, more_n, froz_n]; omega)) | refine Ext.frz ?_ hw _ _ _ (by omega) (by first | omega | (simp only [lay_n, upd_n, more_n, froz_n]; omega))))
          · have := h n hn
            have e : scriptS l = none := by
              rw [hs]
              have : scriptS (o :: l.drop (i + 1)) = (lineS o).bind fun t => (scriptS (l.drop (i + 1))).map fun r => t ++ 10 :: r := rfl
              rw [this, hlo]; rfl
            rw [scriptV, e] at this; exact this
        | some w =>
          obtain ⟨hw1, hw2⟩ := lineS_length hoko hlo
          simp only [lineV, hlo]
          simp (maxSteps := 2000000) -dsimp (disch := omega) only [h4, h9, h10, h11, hds, eScript_14, ↓Tryz.ntmps6, ↓res6, ↓xpre0, xpost0, xpost1, xpost2, xpost3, facts0, facts1, calls0, St.wf.none hw, Nat.add_assoc, ↓reduceIte, Nat.reduceEqDiff, Nat.reduceMul, Nat.reduceAdd, Nat.reduceSub, Nat.reduceLeDiff, Nat.reduceLT, Int.reduceBEq, Int.reduceBNe, Int.reduceEq, Int.reduceNe, Int.reduceLT, Int.reduceLE, Int.reduceToNat, Int.reduceAdd, Int.reduceSub, Int.reduceMul, Int.cast_ofNat_Int]
          refine ⟨by omega, fun _ => ⟨s.n, s.n + 1, acc, w ++ [10], ?_, ?_, by omega, ?_, ?_, ?_⟩⟩
          · rfl
          · simp (maxSteps := 2000000) -dsimp (disch := omega) only [↓xpre0, xpost0, xpost1, xpost2, xpost3, facts0, facts1, calls0, St.wf.none hw, Nat.add_assoc, ↓reduceIte, Nat.reduceEqDiff, Nat.reduceMul, Nat.reduceAdd, Nat.reduceSub, Nat.reduceLeDiff, Nat.reduceLT, Int.reduceBEq, Int.reduceBNe, Int.reduceEq, Int.reduceNe, Int.reduceLT, Int.reduceLE, Int.reduceToNat, Int.reduceAdd, Int.reduceSub, Int.reduceMul, Int.cast_ofNat_Int]
            try omega
          · obtain ⟨p, v, q1, q2, q3⟩ := hb
            refine ⟨p, v, q1, ?_, q3.keep ?_ ?_⟩
            · simp (maxSteps := 2000000) -dsimp (disch := omega) only [q2, ↓xpre0, xpost0, xpost1, xpost2, xpost3, facts0, facts1, calls0, St.wf.none hw, Nat.add_assoc, ↓reduceIte, Nat.reduceEqDiff, Nat.reduceMul, Nat.reduceAdd, Nat.reduceSub, Nat.reduceLeDiff, Nat.reduceLT, Int.reduceBEq, Int.reduceBNe, Int.reduceEq, Int.reduceNe, Int.reduceLT, Int.reduceLE, Int.reduceToNat, Int.reduceAdd, Int.reduceSub, Int.reduceMul, Int.cast_ofNat_Int]
            · simp (maxSteps := 2000000) -dsimp (disch := omega) only [↓xpre0, xpost0, xpost1, xpost2, xpost3, facts0, facts1, calls0, St.wf.none hw, Nat.add_assoc, ↓reduceIte, Nat.reduceEqDiff, Nat.reduceMul, Nat.reduceAdd, Nat.reduceSub, Nat.reduceLeDiff, Nat.reduceLT, Int.reduceBEq, Int.reduceBNe, Int.reduceEq, Int.reduceNe, Int.reduceLT, Int.reduceLE, Int.reduceToNat, Int.reduceAdd, Int.reduceSub, Int.reduceMul, Int.cast_ofNat_Int]
              try omega
            · intro d hd1 hd2 hd3
              simp (maxSteps := 2000000) -dsimp (disch := omega) only [↓xpre0, xpost0, xpost1, xpost2, xpost3, facts0, facts1, calls0, St.wf.none hw, Nat.add_assoc, ↓reduceIte, Nat.reduceEqDiff, Nat.reduceMul, Nat.reduceAdd, Nat.reduceSub, Nat.reduceLeDiff, Nat.reduceLT, Int.reduceBEq, Int.reduceBNe, Int.reduceEq, Int.reduceNe, Int.reduceLT, Int.reduceLE, Int.reduceToNat, Int.reduceAdd, Int.reduceSub, Int.reduceMul, Int.cast_ofNat_Int]
          · simp; omega
          · intro s' e1 e2 e3 hb'
            simp only [more_n, more_σ, lay_σ] at e1 e2
            simp (maxSteps := 2000000) -dsimp (disch := omega) only [h4, h9, h10, h11, hds, hwr, ↓Tryz.ntmps6, ↓res6, ↓xpre0, xpost0, xpost1, xpost2, xpost3, facts0, facts1, calls0, St.wf.none hw, Nat.add_assoc, ↓reduceIte, Nat.reduceEqDiff, Nat.reduceMul, Nat.reduceAdd, Nat.reduceSub, Nat.reduceLeDiff, Nat.reduceLT, Int.reduceBEq, Int.reduceBNe, Int.reduceEq, Int.reduceNe, Int.reduceLT, Int.reduceLE, Int.reduceToNat, Int.reduceAdd, Int.reduceSub, Int.reduceMul, Int.cast_ofNat_Int]
            refine ⟨l.length - (i + 1), by omega, i + 1, acc ++ (w ++ [10]), by omega, rfl, ?_, by omega, rfl, hb', ?_, ?_, ?_⟩
            · refine ⟨fun b o hbo => ?_, ?_, fun b hb => ?_⟩
              · rw [e1]; exact hext.σ b o hbo
              · have := hext.n; omega
              · rw [e3 b (by omega) (by omega)]
                simp (maxSteps := 2000000) -dsimp (disch := omega) only [↓xpre0, xpost0, xpost1, xpost2, xpost3, facts0, facts1, calls0, St.wf.none hw, Nat.add_assoc, ↓reduceIte, Nat.reduceEqDiff, Nat.reduceMul, Nat.reduceAdd, Nat.reduceSub, Nat.reduceLeDiff, Nat.reduceLT, Int.reduceBEq, Int.reduceBNe, Int.reduceEq, Int.reduceNe, Int.reduceLT, Int.reduceLE, Int.reduceToNat, Int.reduceAdd, Int.reduceSub, Int.reduceMul, Int.cast_ofNat_Int]
                exact hext.h b hb
            · intro hnil; simp at hnil
            · simp; omega
            · rw [hs]
              have : scriptS (o :: l.drop (i + 1)) = (lineS o).bind fun t => (scriptS (l.drop (i + 1))).map fun r => t ++ 10 :: r := rfl
              rw [this, hlo, Option.bind_some, Option.map_map]
              congr 1
              funext r; simp
    · have hil : i = l.length := by omega
      subst hil
      rw [List.drop_length] at hs
      have hs : scriptS l = some acc := by rw [hs]; simp [scriptS]
      simp (maxSteps := 2000000) -dsimp (disch := omega) only [h4, h9, h10, h11, hds, Int.lt_irrefl, eScript_15, ↓Tryz.ntmps6, ↓res6, ↓xpre0, xpost0, xpost1, xpost2, xpost3, facts0, facts1, calls0, St.wf.none hw, Nat.add_assoc, ↓reduceIte, Nat.reduceEqDiff, Nat.reduceMul, Nat.reduceAdd, Nat.reduceSub, Nat.reduceLeDiff, Nat.reduceLT, Int.reduceBEq, Int.reduceBNe, Int.reduceEq, Int.reduceNe, Int.reduceLT, Int.reduceLE, Int.reduceToNat, Int.reduceAdd, Int.reduceSub, Int.reduceMul, Int.cast_ofNat_Int]
      refine ⟨s.n, s.n + 1, acc, rfl, by omega, hb, by omega, h0, ?_⟩
      intro s' e1 e2 e3
      simp (maxSteps := 2000000) -dsimp (disch := omega) only [hds, ↓Tryz.ntmps6, ↓res6, ↓xpre0, xpost0, xpost1, xpost2, xpost3, facts0, facts1, calls0, St.wf.none hw, Nat.add_assoc, ↓reduceIte, Nat.reduceEqDiff, Nat.reduceMul, Nat.reduceAdd, Nat.reduceSub, Nat.reduceLeDiff, Nat.reduceLT, Int.reduceBEq, Int.reduceBNe, Int.reduceEq, Int.reduceNe, Int.reduceLT, Int.reduceLE, Int.reduceToNat, Int.reduceAdd, Int.reduceSub, Int.reduceMul, Int.cast_ofNat_Int]
      refine drop_ext hw ⟨fun b o hbo => ?_, ?_, fun b hb => ?_⟩ (fun n hn => ?_)
      · rw [e1]; exact hext.σ b o hbo
      · have := hext.n; omega
      · rw [e3 b (by omega)]; exact hext.h b hb
      · have := h n hn
        rw [scriptV, hs] at this; exact this
end Go.Proofs.TX
