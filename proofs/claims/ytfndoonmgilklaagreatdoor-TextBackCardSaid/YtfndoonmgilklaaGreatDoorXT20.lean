/- The text layer's functions: Read. -/
import Derived.Test.YtfndoonmgilklaaGreatDoorXT19
set_option linter.unusedSimpArgs false
set_option linter.unusedVariables false
set_option maxRecDepth 100000
set_option maxHeartbeats 4000000
namespace Go.Proofs.TX
open Go
/-- blocks that are only read have come -/
structure Grow (s s' : St) : Prop where
  h : s'.h = s.h
  n : s.n ≤ s'.n
  σ : ∀ b o, s.σ b = some o → s'.σ b = some o
theorem Grow.refl (s : St) : Grow s s := ⟨rfl, Nat.le_refl _, fun _ _ h => h⟩
theorem Grow.more (s : St) {n : Nat} (h : s.n ≤ n) : Grow s (s.more n) := ⟨rfl, h, fun _ _ h => h⟩
theorem Grow.froz {s : St} (hw : s.wf) {b n : Nat} (o : Obj) (hb : s.n ≤ b) (hn : s.n ≤ n) : Grow s (s.froz b o n) := ⟨rfl, hn, fun c o' hc => by have := hw.lt_σ hc; rw [froz_σ_ne _ _ _ (by omega)]; exact hc⟩
theorem Grow.ext {s s' : St} (h : Grow s s') : Ext s s' := ⟨h.σ, h.n, fun b _ => by rw [h.h]⟩
def parseSp : Spec where
  run args s K := ∃ l : Bs, args = #[str l] ∧ l.length ≤ 100000 ∧ ∀ n, s.n ≤ n → K.K (parseV l) (s.more n)
  mono args s K K' h := fun ⟨o, h1, h2, h3⟩ => ⟨o, h1, h2, fun n hn => h _ _ (h3 n hn)⟩
theorem parse_c (B : World) (hB : Good B) : ∀ args s K, parseSp.run args s K → CallOK Tryz.prog B 11 args s K.K := by
  rintro args s K ⟨o, rfl, h1, h2⟩
  exact parse_c' B hB o h1 s _ h2
noncomputable def eTRead (B : World) (hB : Good B) : Env Tryz.prog := ((Env.base Tryz.prog B).ext 17 splitSp2 (split_c2 B hB)).ext 11 parseSp (parse_c B hB)
theorem eTRead_17 (B : World) (hB : Good B) (args : Array Value) (s : St) (K : Kp (Value → St → Prop)) : XCallOK Tryz.prog (eTRead B hB) 17 args s K = splitSp2.run args s K := rfl
theorem eTRead_11 (B : World) (hB : Good B) (args : Array Value) (s : St) (K : Kp (Value → St → Prop)) : XCallOK Tryz.prog (eTRead B hB) 11 args s K = parseSp.run args s K := rfl
/-- rows of ops that are handed out, to be read alone -/
theorem ops_out {s t : St} {lo : Nat} {av : List Nat} {v : Value} {out : List OpS} {R : Value → St → Prop} {f : Value → Value} (hw : s.wf) (he : Ext s t) (hlo : s.n ≤ lo) (hs : SlH t lo av 35 11 v (out.map OpS.cells))
    (h : ∀ v s', Grow s s' → OpsAt s' v out → R (f v) s') : Drop R (f v) t := by
  rcases hs with ⟨h0, rfl⟩ | ⟨b, c, rest, rfl, h1, h2, h3, h4, h5, h6, h7⟩
  · have : out = [] := by simpa using h0
    subst this
    exact drop_ext hw he fun n hn => h _ _ (Grow.more s hn) (.inl ⟨rfl, none, 0, rfl⟩)
  · refine drop_froz hw he (b := b) (by omega) h4 (h _ _ (Grow.froz hw _ (by omega) he.n) (.inr ⟨b, 0, c, _, 35, (0, 0), by simp, ?_, froz_σ_self _ _ _ _, ?_⟩))
    · rw [froz_h]; exact hw.none (by omega)
    · intro i o ho j w hj
      have hj11 : j < 11 := (List.getElem?_eq_some_iff.1 hj).1
      have hi := (List.getElem?_eq_some_iff.1 ho).1
      have key : ∀ (l : List OpS) (i : Nat), l[i]? = some o → (l.map OpS.cells).flatten[i * 11 + j]? = some w := by
        intro l
        induction l with
        | nil => intro i h; simp at h
        | cons x l ih =>
          intro i h
          have hx : x.cells.length = 11 := rfl
          simp only [List.map_cons, List.flatten_cons]
          cases i with
          | zero =>
            simp at h; subst h
            rw [List.getElem?_append_left (by omega)]; simpa using hj
          | succ i =>
            rw [List.getElem?_append_right (by omega), hx]
            have e : (i + 1) * 11 + j - 11 = i * 11 + j := by omega
            rw [e]; exact ih i (by simpa using h)
      have hk := key out i ho
      have hkl := (List.getElem?_eq_some_iff.1 hk).1
      simp only [List.getElem?_toArray, Nat.zero_add]
      rw [List.getElem?_append_left hkl]; exact hk
theorem readGo_len : ∀ (ws : List Bs) (i : Nat) (out : List OpS), True := fun _ _ _ => trivial
theorem tread_c' (B : World) (hB : Good B) (l : Bs) (hl : l.length ≤ 100000) (s : St) (R : Value → St → Prop)
    (h : ∀ v s', Grow s s' → OpsAt s' v (readTS l).1 → R (.tuple #[v, .int .i64 (readTS l).2.1, .int .i64 (readTS l).2.2]) s') : CallOK Tryz.prog B 8 #[str l] s R := by
  have hinj := fun a b : Bs => propext (bs_inj a b)
  by_cases hlong : 20000 < l.length
  · have hlong' : (l.length : Int) > 20000 := by omega
    have e : readTS l = ([], 0, 13) := by unfold readTS; rw [if_pos hlong]
    rw [e] at h
    refine call_of (eTRead B hB) (fun _ => none) mixed Tryz.func8 rfl (by simp [Tryz.ntmps8]) (by kernel_rfl) fun hw => ?_
    simp (maxSteps := 2000000) -dsimp (disch := omega) only [hlong', ↓Tryz.ntmps8, ↓res8, ↓xpre0, xpost0, xpost1, xpost2, xpost3, facts0, facts1, calls0, St.wf.none hw, Nat.add_assoc, ↓reduceIte, Nat.reduceEqDiff, Nat.reduceMul, Nat.reduceAdd, Nat.reduceSub, Nat.reduceLeDiff, Nat.reduceLT, Int.reduceBEq, Int.reduceBNe, Int.reduceEq, Int.reduceNe, Int.reduceLT, Int.reduceLE, Int.reduceToNat, Int.reduceAdd, Int.reduceSub, Int.reduceMul, Int.cast_ofNat_Int]
    refine drop_ext hw ?_ fun n hn => h _ _ (Grow.more s hn) (.inl ⟨rfl, none, 0, rfl⟩)
    (repeat (first | with_reducible exact Ext.refl _ | with_reducible assumption | refine Ext.lay ?_ _ _ _ (by omega) (by first | omega | (simp only [lay_n, upd_n, more_n, froz_n]; omega)) | refine Ext.upd ?_ _ _ (by omega) | refine Ext.more ?_ _ (by first | omega | (simp only [lay_n, upd_n, more_n, froz_n]; omega)) | refine Ext.frz ?_ hw _ _ _ (by omega) (by first | omega | (simp only [lay_n, upd_n, more_n, froz_n]; omega))))
  · have hlong' : ¬ ((l.length : Int) > 20000) := by omega
    have e : readTS l = readGo 0 [] (splitS 10 l) := by unfold readTS; rw [if_neg hlong]
    rw [e] at h
    have hsl := splitS_length 10 l
    have hpc := splitS_piece 10 l
    refine call_of (eTRead B hB) (fun _ => none) mixed Tryz.func8 rfl (by simp [Tryz.ntmps8]) (by kernel_rfl) fun hw => ?_
    simp (maxSteps := 2000000) -dsimp (disch := omega) only [hlong', eTRead_17, ↓Tryz.ntmps8, ↓res8, ↓xpre0, xpost0, xpost1, xpost2, xpost3, facts0, facts1, calls0, St.wf.none hw, Nat.add_assoc, ↓reduceIte, Nat.reduceEqDiff, Nat.reduceMul, Nat.reduceAdd, Nat.reduceSub, Nat.reduceLeDiff, Nat.reduceLT, Int.reduceBEq, Int.reduceBNe, Int.reduceEq, Int.reduceNe, Int.reduceLT, Int.reduceLE, Int.reduceToNat, Int.reduceAdd, Int.reduceSub, Int.reduceMul, Int.cast_ofNat_Int]
    refine ⟨l, 10, rfl, by omega, ?_⟩
    generalize splitS 10 l = L at h hsl hpc ⊢
    simp (maxSteps := 2000000) -dsimp (disch := omega) only [↓Tryz.ntmps8, ↓res8, ↓xpre0, xpost0, xpost1, xpost2, xpost3, facts0, facts1, calls0, St.wf.none hw, Nat.add_assoc, ↓reduceIte, Nat.reduceEqDiff, Nat.reduceMul, Nat.reduceAdd, Nat.reduceSub, Nat.reduceLeDiff, Nat.reduceLT, Int.reduceBEq, Int.reduceBNe, Int.reduceEq, Int.reduceNe, Int.reduceLT, Int.reduceLE, Int.reduceToNat, Int.reduceAdd, Int.reduceSub, Int.reduceMul, Int.cast_ofNat_Int]
    refine loop_wf (pl := fun _ => none) mixed (by kernel_rfl) (fun m fr t => ∃ i v out, i ≤ L.length ∧ m = L.length - i ∧ fr.ds = [] ∧ Ext s t ∧ s.n < t.n ∧
      fr.ρ 14 = .slice (some ⟨s.n, 0, none⟩) L.length L.length ∧ fr.ρ 15 = .int .i64 L.length ∧ fr.ρ 16 = .int .i64 (i : Nat) ∧ fr.ρ 5 = v ∧
      t.h s.n = none ∧ t.σ s.n = some (.cells (L.map str).toArray 9) ∧
      SlH t (s.n + 1) [] 35 11 v (out.map OpS.cells) ∧ out.length ≤ 2000 ∧ readGo 0 [] L = readGo i out (L.drop i)) L.length ?_ ?_
    · refine ⟨0, _, [], Nat.zero_le _, rfl, rfl, ?_, ?_, rfl, rfl, rfl, rfl, ?_, ?_, .inl ⟨rfl, ?_⟩, by simp, rfl⟩
      · (repeat (first | with_reducible exact Ext.refl _ | with_reducible assumption | refine Ext.lay ?_ _ _ _ (by omega) (by first | omega | (simp only [lay_n, upd_n, more_n, froz_n]; omega)) | refine Ext.upd ?_ _ _ (by omega) | refine Ext.more ?_ _ (by first | omega | (simp only [lay_n, upd_n, more_n, froz_n]; omega)) | refine Ext.frz ?_ hw _ _ _ (by omega) (by first | omega | (simp only [lay_n, upd_n, more_n, froz_n]; omega))))
      · simp (maxSteps := 2000000) -dsimp (disch := omega) only [↓xpre0, xpost0, xpost1, xpost2, xpost3, facts0, facts1, calls0, St.wf.none hw, Nat.add_assoc, ↓reduceIte, Nat.reduceEqDiff, Nat.reduceMul, Nat.reduceAdd, Nat.reduceSub, Nat.reduceLeDiff, Nat.reduceLT, Int.reduceBEq, Int.reduceBNe, Int.reduceEq, Int.reduceNe, Int.reduceLT, Int.reduceLE, Int.reduceToNat, Int.reduceAdd, Int.reduceSub, Int.reduceMul, Int.cast_ofNat_Int]
        try omega
      · simp (maxSteps := 2000000) -dsimp (disch := omega) only [↓xpre0, xpost0, xpost1, xpost2, xpost3, facts0, facts1, calls0, St.wf.none hw, Nat.add_assoc, ↓reduceIte, Nat.reduceEqDiff, Nat.reduceMul, Nat.reduceAdd, Nat.reduceSub, Nat.reduceLeDiff, Nat.reduceLT, Int.reduceBEq, Int.reduceBNe, Int.reduceEq, Int.reduceNe, Int.reduceLT, Int.reduceLE, Int.reduceToNat, Int.reduceAdd, Int.reduceSub, Int.reduceMul, Int.cast_ofNat_Int]
        try exact hw.none (Nat.le_refl _)
      · simp (maxSteps := 2000000) -dsimp (disch := omega) only [↓xpre0, xpost0, xpost1, xpost2, xpost3, facts0, facts1, calls0, St.wf.none hw, Nat.add_assoc, ↓reduceIte, Nat.reduceEqDiff, Nat.reduceMul, Nat.reduceAdd, Nat.reduceSub, Nat.reduceLeDiff, Nat.reduceLT, Int.reduceBEq, Int.reduceBNe, Int.reduceEq, Int.reduceNe, Int.reduceLT, Int.reduceLE, Int.reduceToNat, Int.reduceAdd, Int.reduceSub, Int.reduceMul, Int.cast_ofNat_Int]
      · simp (maxSteps := 2000000) -dsimp (disch := omega) only [↓xpre0, xpost0, xpost1, xpost2, xpost3, facts0, facts1, calls0, St.wf.none hw, Nat.add_assoc, ↓reduceIte, Nat.reduceEqDiff, Nat.reduceMul, Nat.reduceAdd, Nat.reduceSub, Nat.reduceLeDiff, Nat.reduceLT, Int.reduceBEq, Int.reduceBNe, Int.reduceEq, Int.reduceNe, Int.reduceLT, Int.reduceLE, Int.reduceToNat, Int.reduceAdd, Int.reduceSub, Int.reduceMul, Int.cast_ofNat_Int]
    · rintro m fr t ht ⟨i, v, out, hi, rfl, hds, hext, hn, h14, h15, h16, h5, m1, m2, hs, ho, hr⟩
      obtain ⟨base, c, rfl⟩ := hs.slice
      by_cases hlt : i < L.length
      · have hlt' : (i : Int) < (L.length : Int) := by omega
        have hwr : IntKind.i64.wrap ((i : Int) + 1) = ((i + 1 : Nat) : Int) := by rw [wrap_i64 (by omega) (by omega)]; omega
        have hw9 : (L.map str)[i]? = some (str L[i]) := by simp [hlt]
        have hwl := hpc L[i] (List.getElem_mem hlt)
        rw [List.drop_eq_getElem_cons hlt, readGo] at hr
        generalize L[i] = w at hw9 hwl hr
        by_cases hnil : w = []
        · subst hnil
          simp (maxSteps := 2000000) -dsimp (disch := omega) only [h14, h15, h16, h5, m1, m2, hds, hlt', hwr, Int.toNat_natCast, Nat.mul_one, Nat.zero_add, hw9, hinj, eq_self_iff_true, decide_true, ↓Tryz.ntmps8, ↓res8, ↓xpre0, xpost0, xpost1, xpost2, xpost3, facts0, facts1, calls0, St.wf.none hw, Nat.add_assoc, ↓reduceIte, Nat.reduceEqDiff, Nat.reduceMul, Nat.reduceAdd, Nat.reduceSub, Nat.reduceLeDiff, Nat.reduceLT, Int.reduceBEq, Int.reduceBNe, Int.reduceEq, Int.reduceNe, Int.reduceLT, Int.reduceLE, Int.reduceToNat, Int.reduceAdd, Int.reduceSub, Int.reduceMul, Int.cast_ofNat_Int]
          rw [if_pos (by rfl)] at hr
          exact ⟨by omega, fun _ => ⟨L.length - (i + 1), by omega, i + 1, _, out, by omega, rfl, hext, hn, rfl, rfl, hs, ho, hr⟩⟩
        · obtain ⟨q, w', rfl⟩ : ∃ q w', w = q :: w' := by
            cases w with
            | nil => exact absurd rfl hnil
            | cons q w' => exact ⟨q, w', rfl⟩
          have hg : (q :: w').toArray.getD 0 0 = q := rfl
          by_cases hq : q = 35
          · subst hq
            rw [if_pos (by rfl)] at hr
            simp (maxSteps := 2000000) -dsimp (disch := omega) only [h14, h15, h16, h5, m1, m2, hds, hlt', hwr, Int.toNat_natCast, Nat.mul_one, Nat.zero_add, hw9, hinj, hnil, decide_false, hg, show ((35 : UInt8).toNat : Int) = 35 from rfl, decide_true, ↓Tryz.ntmps8, ↓res8, ↓xpre0, xpost0, xpost1, xpost2, xpost3, facts0, facts1, calls0, St.wf.none hw, Nat.add_assoc, ↓reduceIte, Nat.reduceEqDiff, Nat.reduceMul, Nat.reduceAdd, Nat.reduceSub, Nat.reduceLeDiff, Nat.reduceLT, Int.reduceBEq, Int.reduceBNe, Int.reduceEq, Int.reduceNe, Int.reduceLT, Int.reduceLE, Int.reduceToNat, Int.reduceAdd, Int.reduceSub, Int.reduceMul, Int.cast_ofNat_Int]
            refine ⟨by omega, fun _ => ⟨by omega, fun _ => ⟨L.length - (i + 1), by omega, i + 1, _, out, by omega, rfl, hext, hn, rfl, rfl, hs, ho, hr⟩⟩⟩
          · have hq2 : ¬ ((q.toNat : Int) = 35) := by
              intro h
              have : q.toNat = (35 : UInt8).toNat := by have : (35 : UInt8).toNat = 35 := rfl; omega
              exact hq (UInt8.toNat_inj.1 this)
            have hsk : skipL (q :: w') = false := by simp [skipL, hq]
            rw [if_neg (by simp [hsk])] at hr
            simp (maxSteps := 2000000) -dsimp (disch := omega) only [h14, h15, h16, h5, m1, m2, hds, hlt', hwr, Int.toNat_natCast, Nat.mul_one, Nat.zero_add, hw9, hinj, hnil, decide_false, hg, hq2, eTRead_11, ↓Tryz.ntmps8, ↓res8, ↓xpre0, xpost0, xpost1, xpost2, xpost3, facts0, facts1, calls0, St.wf.none hw, Nat.add_assoc, ↓reduceIte, Nat.reduceEqDiff, Nat.reduceMul, Nat.reduceAdd, Nat.reduceSub, Nat.reduceLeDiff, Nat.reduceLT, Int.reduceBEq, Int.reduceBNe, Int.reduceEq, Int.reduceNe, Int.reduceLT, Int.reduceLE, Int.reduceToNat, Int.reduceAdd, Int.reduceSub, Int.reduceMul, Int.cast_ofNat_Int]
            refine ⟨by omega, fun _ => ⟨by omega, fun _ => ⟨q :: w', rfl, by omega, fun n hn2 => ?_⟩⟩⟩
            simp only [parseV]
            generalize parseS (q :: w') = rp at hr
            obtain ⟨o, e⟩ := rp
            simp only at hr ⊢
            by_cases he : e = 0
            · subst he
              simp only [ne_eq, not_true_eq_false, if_false] at hr
              by_cases h2000 : out.length = 2000
              · rw [if_pos h2000] at hr
                have h2000' : ((out.map OpS.cells).length : Int) = 2000 := by simp [h2000]
                simp (maxSteps := 2000000) -dsimp (disch := omega) only [h14, h15, h16, h5, m1, m2, hds, hwr, OpS.cells, h2000', decide_true, ↓Tryz.ntmps8, ↓res8, ↓xpre0, xpost0, xpost1, xpost2, xpost3, facts0, facts1, calls0, St.wf.none hw, Nat.add_assoc, ↓reduceIte, Nat.reduceEqDiff, Nat.reduceMul, Nat.reduceAdd, Nat.reduceSub, Nat.reduceLeDiff, Nat.reduceLT, Int.reduceBEq, Int.reduceBNe, Int.reduceEq, Int.reduceNe, Int.reduceLT, Int.reduceLE, Int.reduceToNat, Int.reduceAdd, Int.reduceSub, Int.reduceMul, Int.cast_ofNat_Int]
                rw [hr] at h
                refine drop_ext hw ?_ fun n hn => h _ _ (Grow.more s hn) (.inl ⟨rfl, none, 0, rfl⟩)
                (repeat (first | with_reducible exact Ext.refl _ | with_reducible assumption | refine Ext.lay ?_ _ _ _ (by omega) (by first | omega | (simp only [lay_n, upd_n, more_n, froz_n]; omega)) | refine Ext.upd ?_ _ _ (by omega) | refine Ext.more ?_ _ (by first | omega | (simp only [lay_n, upd_n, more_n, froz_n]; omega)) | refine Ext.frz ?_ hw _ _ _ (by omega) (by first | omega | (simp only [lay_n, upd_n, more_n, froz_n]; omega))))
              · rw [if_neg h2000] at hr
                have h2000' : ¬ (((out.map OpS.cells).length : Int) = 2000) := by simp; omega
                simp (maxSteps := 2000000) -dsimp (disch := omega) only [h14, h15, h16, h5, m1, m2, hds, hwr, OpS.cells, h2000', decide_false, ↓Tryz.ntmps8, ↓res8, ↓xpre0, xpost0, xpost1, xpost2, xpost3, facts0, facts1, calls0, St.wf.none hw, Nat.add_assoc, ↓reduceIte, Nat.reduceEqDiff, Nat.reduceMul, Nat.reduceAdd, Nat.reduceSub, Nat.reduceLeDiff, Nat.reduceLT, Int.reduceBEq, Int.reduceBNe, Int.reduceEq, Int.reduceNe, Int.reduceLT, Int.reduceLE, Int.reduceToNat, Int.reduceAdd, Int.reduceSub, Int.reduceMul, Int.cast_ofNat_Int]
                refine append_one (lo := s.n + 1) (av := []) (rows := out.map OpS.cells) (row := o.cells) (hs.keep ?_ ?_) ?_ ?_ rfl ?_ rfl (by omega) ?_ ?_ ?_
                · simp (maxSteps := 2000000) -dsimp (disch := omega) only [↓xpre0, xpost0, xpost1, xpost2, xpost3, facts0, facts1, calls0, St.wf.none hw, Nat.add_assoc, ↓reduceIte, Nat.reduceEqDiff, Nat.reduceMul, Nat.reduceAdd, Nat.reduceSub, Nat.reduceLeDiff, Nat.reduceLT, Int.reduceBEq, Int.reduceBNe, Int.reduceEq, Int.reduceNe, Int.reduceLT, Int.reduceLE, Int.reduceToNat, Int.reduceAdd, Int.reduceSub, Int.reduceMul, Int.cast_ofNat_Int]
                  try omega
                · intro d hd1 hd2 hd3
                  simp (maxSteps := 2000000) -dsimp (disch := omega) only [↓xpre0, xpost0, xpost1, xpost2, xpost3, facts0, facts1, calls0, St.wf.none hw, Nat.add_assoc, ↓reduceIte, Nat.reduceEqDiff, Nat.reduceMul, Nat.reduceAdd, Nat.reduceSub, Nat.reduceLeDiff, Nat.reduceLT, Int.reduceBEq, Int.reduceBNe, Int.reduceEq, Int.reduceNe, Int.reduceLT, Int.reduceLE, Int.reduceToNat, Int.reduceAdd, Int.reduceSub, Int.reduceMul, Int.cast_ofNat_Int]
                · simp (maxSteps := 2000000) -dsimp (disch := omega) only [↓xpre0, xpost0, xpost1, xpost2, xpost3, facts0, facts1, calls0, St.wf.none hw, Nat.add_assoc, ↓reduceIte, Nat.reduceEqDiff, Nat.reduceMul, Nat.reduceAdd, Nat.reduceSub, Nat.reduceLeDiff, Nat.reduceLT, Int.reduceBEq, Int.reduceBNe, Int.reduceEq, Int.reduceNe, Int.reduceLT, Int.reduceLE, Int.reduceToNat, Int.reduceAdd, Int.reduceSub, Int.reduceMul, Int.cast_ofNat_Int]
                  try omega
                · intro d hd; cases hd
                · rw [rdS_some]
                  simp (maxSteps := 2000000) -dsimp (disch := omega) only [OpS.cells, ↓xpre0, xpost0, xpost1, xpost2, xpost3, facts0, facts1, calls0, St.wf.none hw, Nat.add_assoc, ↓reduceIte, Nat.reduceEqDiff, Nat.reduceMul, Nat.reduceAdd, Nat.reduceSub, Nat.reduceLeDiff, Nat.reduceLT, Int.reduceBEq, Int.reduceBNe, Int.reduceEq, Int.reduceNe, Int.reduceLT, Int.reduceLE, Int.reduceToNat, Int.reduceAdd, Int.reduceSub, Int.reduceMul, Int.cast_ofNat_Int]
                · intro v hv
                  simp only [OpS.cells, List.mem_cons, List.not_mem_nil, or_false] at hv
                  rcases hv with rfl | rfl | rfl | rfl | rfl | rfl | rfl | rfl | rfl | rfl | rfl <;> rfl
                · simp; omega
                · intro v' t' hsl' hk
                  have k1 : t'.h s.n = none := by
                    rw [hk.h s.n (.inl (by omega))]
                    simp (maxSteps := 2000000) -dsimp (disch := omega) only [m1, ↓xpre0, xpost0, xpost1, xpost2, xpost3, facts0, facts1, calls0, St.wf.none hw, Nat.add_assoc, ↓reduceIte, Nat.reduceEqDiff, Nat.reduceMul, Nat.reduceAdd, Nat.reduceSub, Nat.reduceLeDiff, Nat.reduceLT, Int.reduceBEq, Int.reduceBNe, Int.reduceEq, Int.reduceNe, Int.reduceLT, Int.reduceLE, Int.reduceToNat, Int.reduceAdd, Int.reduceSub, Int.reduceMul, Int.cast_ofNat_Int]
                  have k2 : t'.σ s.n = some (.cells (L.map str).toArray 9) := by
                    rw [hk.σ]
                    simp (maxSteps := 2000000) -dsimp (disch := omega) only [m2, ↓xpre0, xpost0, xpost1, xpost2, xpost3, facts0, facts1, calls0, St.wf.none hw, Nat.add_assoc, ↓reduceIte, Nat.reduceEqDiff, Nat.reduceMul, Nat.reduceAdd, Nat.reduceSub, Nat.reduceLeDiff, Nat.reduceLT, Int.reduceBEq, Int.reduceBNe, Int.reduceEq, Int.reduceNe, Int.reduceLT, Int.reduceLE, Int.reduceToNat, Int.reduceAdd, Int.reduceSub, Int.reduceMul, Int.cast_ofNat_Int]
                  have k3 := hk.n
                  simp only [lay_n] at k3
                  have k4 : Ext s t' := by
                    refine ⟨fun b o hbo => ?_, ?_, fun b hb => ?_⟩
                    · rw [hk.σ]; exact hext.σ b o hbo
                    · have := hext.n; omega
                    · rw [hk.h b (.inl (by omega))]
                      simp (maxSteps := 2000000) -dsimp (disch := omega) only [↓xpre0, xpost0, xpost1, xpost2, xpost3, facts0, facts1, calls0, St.wf.none hw, Nat.add_assoc, ↓reduceIte, Nat.reduceEqDiff, Nat.reduceMul, Nat.reduceAdd, Nat.reduceSub, Nat.reduceLeDiff, Nat.reduceLT, Int.reduceBEq, Int.reduceBNe, Int.reduceEq, Int.reduceNe, Int.reduceLT, Int.reduceLE, Int.reduceToNat, Int.reduceAdd, Int.reduceSub, Int.reduceMul, Int.cast_ofNat_Int]
                      exact hext.h b hb
                  simp (maxSteps := 2000000) -dsimp (disch := omega) only [h14, h15, h16, k1, k2, hds, hwr, ↓Tryz.ntmps8, ↓res8, ↓xpre0, xpost0, xpost1, xpost2, xpost3, facts0, facts1, calls0, St.wf.none hw, Nat.add_assoc, ↓reduceIte, Nat.reduceEqDiff, Nat.reduceMul, Nat.reduceAdd, Nat.reduceSub, Nat.reduceLeDiff, Nat.reduceLT, Int.reduceBEq, Int.reduceBNe, Int.reduceEq, Int.reduceNe, Int.reduceLT, Int.reduceLE, Int.reduceToNat, Int.reduceAdd, Int.reduceSub, Int.reduceMul, Int.cast_ofNat_Int]
                  refine ⟨L.length - (i + 1), by omega, i + 1, v', out ++ [o], by omega, rfl, k4, by omega, rfl, rfl, ?_, ?_, hr⟩
                  · rw [List.map_append]; exact hsl'
                  · simp; omega
            · rw [if_pos he] at hr
              simp (maxSteps := 2000000) -dsimp (disch := omega) only [h14, h15, h16, h5, m1, m2, hds, hwr, OpS.cells, he, decide_false, ↓Tryz.ntmps8, ↓res8, ↓xpre0, xpost0, xpost1, xpost2, xpost3, facts0, facts1, calls0, St.wf.none hw, Nat.add_assoc, ↓reduceIte, Nat.reduceEqDiff, Nat.reduceMul, Nat.reduceAdd, Nat.reduceSub, Nat.reduceLeDiff, Nat.reduceLT, Int.reduceBEq, Int.reduceBNe, Int.reduceEq, Int.reduceNe, Int.reduceLT, Int.reduceLE, Int.reduceToNat, Int.reduceAdd, Int.reduceSub, Int.reduceMul, Int.cast_ofNat_Int]
              rw [hr] at h
              refine drop_ext hw ?_ fun n hn => h _ _ (Grow.more s hn) (.inl ⟨rfl, none, 0, rfl⟩)
              (repeat (first | with_reducible exact Ext.refl _ | with_reducible assumption | refine Ext.lay ?_ _ _ _ (by omega) (by first | omega | (simp only [lay_n, upd_n, more_n, froz_n]; omega)) | refine Ext.upd ?_ _ _ (by omega) | refine Ext.more ?_ _ (by first | omega | (simp only [lay_n, upd_n, more_n, froz_n]; omega)) | refine Ext.frz ?_ hw _ _ _ (by omega) (by first | omega | (simp only [lay_n, upd_n, more_n, froz_n]; omega))))
      · have hil : i = L.length := by omega
        subst hil
        rw [List.drop_length, readGo] at hr
        rw [hr] at h
        simp (maxSteps := 2000000) -dsimp (disch := omega) only [h14, h15, h16, h5, hds, Int.lt_irrefl, ↓Tryz.ntmps8, ↓res8, ↓xpre0, xpost0, xpost1, xpost2, xpost3, facts0, facts1, calls0, St.wf.none hw, Nat.add_assoc, ↓reduceIte, Nat.reduceEqDiff, Nat.reduceMul, Nat.reduceAdd, Nat.reduceSub, Nat.reduceLeDiff, Nat.reduceLT, Int.reduceBEq, Int.reduceBNe, Int.reduceEq, Int.reduceNe, Int.reduceLT, Int.reduceLE, Int.reduceToNat, Int.reduceAdd, Int.reduceSub, Int.reduceMul, Int.cast_ofNat_Int]
        exact ops_out (f := fun v => .tuple #[v, .int .i64 0, .int .i64 0]) hw hext (Nat.le_succ _) hs h
end Go.Proofs.TX
