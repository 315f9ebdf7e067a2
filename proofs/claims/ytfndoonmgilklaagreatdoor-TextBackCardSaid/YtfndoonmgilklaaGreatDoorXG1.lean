/- From the row's premises to the walk's. -/
import Derived.Test.YtfndoonmgilklaaGreatDoorXL3
import Derived.Test.YtfndoonmgilklaaGreatDoorTie
import Derived.ProofKit
import Derived.OpenShut
import Derived.HandedShaped
import Derived.LaidMore
import Derived.Lay
import Derived.Shelf.Vars
import Derived.Deep.Slices
import Derived.Deep.Fields
import Derived.Stop.Joined
set_option linter.unusedSimpArgs false
set_option linter.unusedVariables false
set_option maxRecDepth 100000
namespace Go.Proofs.TX
open Go Go.ChangeShapes Go.WideShapes Go.ChangeAt Go.RowKit Go.Deep
open Go.Proofs.YtfndoonmgilklaaGreatDoor
/-- the list of the two rows -/
def laid7 : List (String × DataW Unit) := Rows.textScriptsRow.laid
theorem laid_at {P : Program} {w : World} : ∀ {l : List (String × DataW Unit)} {ps : List MemPlace}, DataW.LaidVars P w l ps → ∀ x ∈ l,
    ∃ g t cs fuel p, P.globalNamed x.1 = some g ∧ (P.globals[g]?).map (·.type) = some t ∧ w.var? P x.1 = some cs ∧ DataW.trod (fun _ => ()) P w 0 (fun _ => true) false fuel t cs.toList = some (x.2, p)
  | [], _, _, x, hx => by cases hx
  | (n, d) :: r, ps, ⟨g, t, cs, fuel, p, q, h1, h2, h3, h4, h5, _⟩, x, hx => by
    rcases List.mem_cons.1 hx with rfl | hx
    · exact ⟨g, t, cs, fuel, p, h1, h2, h3, h4⟩
    · exact laid_at h5 x hx
theorem iface_at {H : Type} {enc : TypeId × Value → H} {P : Program} {w : World} {base : Nat} {sp : Nat → Bool} {fuel : Nat} {t : TypeId} {ms : Array (String × TypeId)} {cs : Array Value} {nm : String} {d : DataW H} {p : List MemPlace}
    (ht : P.underlying t = some (.interface ms)) (h : DataW.trod enc P w base sp false fuel t cs.toList = some (.iface nm d, p)) : ∃ u v, cs = #[.iface u v] := by
  obtain ⟨l⟩ := cs
  cases fuel with
  | zero => simp [DataW.trod] at h
  | succ n =>
    simp only [DataW.trod, ht] at h
    split at h <;> simp_all
theorem good_of {W : World} (hL : laidMetH Tryz.prog laid7 W) (hs : W.ShapedOpen Tryz.prog) : Good W := by
  rw [MakeChecks.laidMetH_plain _ _ _ (by kernel_rfl)] at hL
  obtain ⟨ps, hv, _, _⟩ := hL
  refine ⟨?_, ?_, ?_, ?_⟩
  · exact Go.Proofs.cell_of_shapedOpen_int (zero := #[.int .i64 0]) (t := 3) hs (of_decide_eq_true (by kernel_rfl)) (by kernel_rfl) rfl (by kernel_rfl) (by kernel_rfl) Tryz.underlying3
  · obtain ⟨g, t, cs, fuel, p, h1, h2, h3, h4⟩ := laid_at hv ("internal/strconv.uint64pow10", Rows.laid_internal_strconv_uint64pow10) (by simp [laid7, Rows.textScriptsRow])
    obtain rfl := Option.some.inj ((show Tryz.prog.globalNamed "internal/strconv.uint64pow10" = some 1 by kernel_rfl).symm.trans h1)
    obtain rfl := Option.some.inj ((show (Tryz.prog.globals[1]?).map (·.type) = some 202 by kernel_rfl).symm.trans h2)
    have e : (Rows.laid_internal_strconv_uint64pow10 : DataW Unit) = Lib.tabData .u64 Lib.pow10Tab := by kernel_rfl
    simp only [e] at h4
    unfold Lib.TabIs
    rw [h3, ← Lib.cells_of_tab Tryz.underlying202 Tryz.underlying33 (by kernel_rfl) (by kernel_rfl) h4]
  · obtain ⟨g, t, cs, fuel, p, h1, h2, h3, h4⟩ := laid_at hv ("strconv.ErrSyntax", Rows.laid_strconv_ErrSyntax) (by simp [laid7, Rows.textScriptsRow])
    obtain rfl := Option.some.inj ((show Tryz.prog.globalNamed "strconv.ErrSyntax" = some 4 by kernel_rfl).symm.trans h1)
    obtain rfl := Option.some.inj ((show (Tryz.prog.globals[4]?).map (·.type) = some 48 by kernel_rfl).symm.trans h2)
    obtain ⟨u, v, rfl⟩ := iface_at Tryz.underlying48 h4
    exact ⟨u, v, h3⟩
  · obtain ⟨g, t, cs, fuel, p, h1, h2, h3, h4⟩ := laid_at hv ("strconv.ErrRange", Rows.laid_strconv_ErrRange) (by simp [laid7, Rows.textScriptsRow])
    obtain rfl := Option.some.inj ((show Tryz.prog.globalNamed "strconv.ErrRange" = some 5 by kernel_rfl).symm.trans h1)
    obtain rfl := Option.some.inj ((show (Tryz.prog.globals[5]?).map (·.type) = some 48 by kernel_rfl).symm.trans h2)
    obtain ⟨u, v, rfl⟩ := iface_at Tryz.underlying48 h4
    exact ⟨u, v, h3⟩
/-- the walk's first state: all of the heap is there to be read -/
def start (W : World) : St := ⟨fun b => W.heap[b]?, fun _ => none, W.heap.size⟩
theorem start_sat (W : World) : Sat W W (start W) :=
  ⟨rfl, rfl, rfl, rfl, fun _ _ h => h, (fun _ _ h => by simp [start] at h), (fun _ _ h => by simp [start] at h), Nat.le_refl _, (fun _ _ h => by simp [start] at h), fun _ _ => rfl⟩
theorem sat_below {W W' : World} {s : St} (h : Sat W W' s) : Below W.heap.size W W' := by
  exact { os := h.os, output := h.out, tape := h.tape, size := by rw [h.size]; exact h.le, block := fun b hb => h.base b hb }
section
variable {H : Type} {enc : TypeId × Value → H} {w : World} {base : Nat} {sp : Nat → Bool} {held : Bool}
theorem wf_range {k : IntKind} {n : Int} (h : (Lit.int k n).wf = true) : k.min ≤ n ∧ n ≤ k.max := by
  simpa only [Lit.wf, Bool.and_eq_true, decide_eq_true_eq] using h
theorem wf_i64 {n : Int} (h : (Lit.int .i64 n).wf = true) : i64ok n := wf_range h
theorem wf_u64 {n : Int} (h : (Lit.int .u64 n).wf = true) : 0 ≤ n ∧ n < 18446744073709551616 := by
  have : (0 : Int) ≤ n ∧ n ≤ 18446744073709551615 := wf_range h
  omega
theorem wf_u8 {n : Int} (h : (Lit.int .u8 n).wf = true) : 0 ≤ n ∧ n ≤ 255 := wf_range h
theorem op_of_trod {fuel : Nat} {cs : List Value} {x : DataW H × List MemPlace} (h : DataW.trod enc Tryz.prog w base sp held fuel 35 cs = some x) : ∃ o : OpS, o.ok ∧ cs = o.cells := by
  have c3 : Tryz.prog.cellsOf 3 = 1 := by kernel_rfl
  have c5 : Tryz.prog.cellsOf 5 = 1 := by kernel_rfl
  have c2 : Tryz.prog.cellsOf 2 = 1 := by kernel_rfl
  have c33 : Tryz.prog.cellsOf 33 = 1 := by kernel_rfl
  have c32 : Tryz.prog.cellsOf 32 = 2 := by kernel_rfl
  have c35 : Tryz.prog.cellsOf 35 = 11 := by kernel_rfl
  obtain ⟨xs, n, _, _, hl, hlen, hf⟩ := DataW.trod_struct Tryz.underlying35 h
  rw [c35] at hl
  match cs, hl with
  | [v0, v1, v2, v3, v4, v5, v6, v7, v8, v9, v10], _ =>
    match xs, hlen with
    | [x0, x1, x2, x3, x4, x5, x6, x7, x8, x9], _ =>
      have h0 : DataW.trod enc Tryz.prog w base sp held n 3 (([v0, v1, v2, v3, v4, v5, v6, v7, v8, v9, v10].drop 0).take (Tryz.prog.cellsOf 3)) = some x0 := hf 0 _ rfl
      rw [c3] at h0
      have h1 : DataW.trod enc Tryz.prog w base sp held n 3 (([v0, v1, v2, v3, v4, v5, v6, v7, v8, v9, v10].drop 1).take (Tryz.prog.cellsOf 3)) = some x1 := hf 1 _ rfl
      rw [c3] at h1
      have h2 : DataW.trod enc Tryz.prog w base sp held n 3 (([v0, v1, v2, v3, v4, v5, v6, v7, v8, v9, v10].drop 2).take (Tryz.prog.cellsOf 3)) = some x2 := hf 2 _ rfl
      rw [c3] at h2
      have h3 : DataW.trod enc Tryz.prog w base sp held n 3 (([v0, v1, v2, v3, v4, v5, v6, v7, v8, v9, v10].drop 3).take (Tryz.prog.cellsOf 3)) = some x3 := hf 3 _ rfl
      rw [c3] at h3
      have h4 : DataW.trod enc Tryz.prog w base sp held n 32 (([v0, v1, v2, v3, v4, v5, v6, v7, v8, v9, v10].drop 4).take (Tryz.prog.cellsOf 32)) = some x4 := hf 4 _ rfl
      rw [c32] at h4
      have h5 : DataW.trod enc Tryz.prog w base sp held n 33 (([v0, v1, v2, v3, v4, v5, v6, v7, v8, v9, v10].drop 6).take (Tryz.prog.cellsOf 33)) = some x5 := hf 5 _ rfl
      rw [c33] at h5
      have h6 : DataW.trod enc Tryz.prog w base sp held n 3 (([v0, v1, v2, v3, v4, v5, v6, v7, v8, v9, v10].drop 7).take (Tryz.prog.cellsOf 3)) = some x6 := hf 6 _ rfl
      rw [c3] at h6
      have h7 : DataW.trod enc Tryz.prog w base sp held n 3 (([v0, v1, v2, v3, v4, v5, v6, v7, v8, v9, v10].drop 8).take (Tryz.prog.cellsOf 3)) = some x7 := hf 7 _ rfl
      rw [c3] at h7
      have h8 : DataW.trod enc Tryz.prog w base sp held n 3 (([v0, v1, v2, v3, v4, v5, v6, v7, v8, v9, v10].drop 9).take (Tryz.prog.cellsOf 3)) = some x8 := hf 8 _ rfl
      rw [c3] at h8
      have h9 : DataW.trod enc Tryz.prog w base sp held n 5 (([v0, v1, v2, v3, v4, v5, v6, v7, v8, v9, v10].drop 10).take (Tryz.prog.cellsOf 5)) = some x9 := hf 9 _ rfl
      rw [c5] at h9
      obtain ⟨a0, e0, _, w0⟩ := DataW.trod_int Tryz.underlying3 h0
      obtain ⟨a1, e1, _, w1⟩ := DataW.trod_int Tryz.underlying3 h1
      obtain ⟨a2, e2, _, w2⟩ := DataW.trod_int Tryz.underlying3 h2
      obtain ⟨a3, e3, _, w3⟩ := DataW.trod_int Tryz.underlying3 h3
      obtain ⟨a5, e5, _, w5⟩ := DataW.trod_int Tryz.underlying33 h5
      obtain ⟨a6, e6, _, w6⟩ := DataW.trod_int Tryz.underlying3 h6
      obtain ⟨a7, e7, _, w7⟩ := DataW.trod_int Tryz.underlying3 h7
      obtain ⟨a8, e8, _, w8⟩ := DataW.trod_int Tryz.underlying3 h8
      obtain ⟨a9, e9, _, w9⟩ := DataW.trod_int Tryz.underlying5 h9
      obtain ⟨ys, m, _, _, _, hlen2, hg⟩ := DataW.trod_struct Tryz.underlying32 h4
      match ys, hlen2 with
      | [y0, y1], _ =>
        have k0 : DataW.trod enc Tryz.prog w base sp held m 3 (([v4, v5].drop 0).take (Tryz.prog.cellsOf 3)) = some y0 := hg 0 _ rfl
        rw [c3] at k0
        have k1 : DataW.trod enc Tryz.prog w base sp held m 2 (([v4, v5].drop 1).take (Tryz.prog.cellsOf 2)) = some y1 := hg 1 _ rfl
        rw [c2] at k1
        obtain ⟨b0, f0, _, u0⟩ := DataW.trod_int Tryz.underlying3 k0
        obtain ⟨b1, f1, _, u1⟩ := DataW.trod_int Tryz.underlying2 k1
        refine ⟨⟨a0, a1, a2, a3, b0, b1, a5, a6, a7, a8, a9⟩, ⟨wf_i64 w0, wf_i64 w1, wf_i64 w2, wf_i64 w3, wf_i64 u0, wf_i64 u1, wf_u64 w5, wf_i64 w6, wf_i64 w7, wf_i64 w8, wf_u8 w9⟩, ?_⟩
        simp only [List.drop, List.take, List.cons.injEq, and_true] at e0 e1 e2 e3 e5 e6 e7 e8 e9 f0 f1
        subst e0 e1 e2 e3 e5 e6 e7 e8 e9 f0 f1
        rfl
/-- the first argument: a slice of ops -/
theorem ops_of_trod {v : Value} {d : DataW H} {p : List MemPlace} (hval : ∃ a len cap, v = .slice a len cap) (h : DataW.Trod enc Tryz.prog w base sp held 22 v d p) : ∃ l : List OpS, (∀ o ∈ l, o.ok) ∧ OpsAt (start w) v l := by
  obtain ⟨a0, len0, cap0, rfl⟩ := hval
  obtain ⟨fuel, hf⟩ := h
  have c35 : Tryz.prog.cellsOf 35 = 11 := by kernel_rfl
  rcases open_slice Tryz.underlying22 hf with ⟨hcs, _⟩ | ⟨a, len, cap, m, n, D, Pl, hcs, hb, hl, hm, hmm, hx, hi⟩
  · simp only [Value.cells, List.cons.injEq, Value.slice.injEq, and_true] at hcs
    obtain ⟨rfl, rfl, rfl⟩ := hcs
    exact ⟨[], by simp, .inl ⟨rfl, none, 0, rfl⟩⟩
  · simp only [Value.cells, List.cons.injEq, Value.slice.injEq, and_true] at hcs
    obtain ⟨rfl, rfl, rfl⟩ := hcs
    have hml : len0 ≤ m := by split at hmm <;> omega
    have hch : ∀ i, ∃ o : OpS, i < len0 → o.ok ∧ w.cells? base (a.add (i * 11)) 11 = some o.cells := by
      intro i
      by_cases hlt : i < len0
      · obtain ⟨cs', hc, ht'⟩ := hi i (by omega)
        obtain ⟨o, ho, rfl⟩ := op_of_trod ht'
        rw [c35] at hc
        exact ⟨o, fun _ => ⟨ho, hc⟩⟩
      · exact ⟨.zero 0, fun x => absurd x hlt⟩
    obtain ⟨f, hf'⟩ := Classical.axiomOfChoice hch
    refine ⟨(List.range len0).map f, ?_, ?_⟩
    · intro o ho
      obtain ⟨i, hi', rfl⟩ := List.mem_map.1 ho
      exact (hf' i (List.mem_range.1 hi')).1
    · have hcell : ∀ i o, ((List.range len0).map f)[i]? = some o → ∀ j v, o.cells[j]? = some v → w.cell? (a.add (i * 11 + j)) = some v := by
        intro i o ho j v hv
        rw [List.getElem?_map] at ho
        by_cases hlt : i < len0
        · rw [List.getElem?_range hlt] at ho
          cases ho
          obtain ⟨_, hlen, hat⟩ := World.cells?_some (hf' i hlt).2
          have hj : j < 11 := by rw [← hlen]; exact (List.getElem?_eq_some_iff.1 hv).1
          rw [← Go.Deep.add_add, hat j hj, hv]
        · rw [List.getElem?_eq_none (by simp; omega)] at ho
          cases ho
      by_cases h0 : len0 = 0
      · subst h0
        exact .inl ⟨rfl, some a, cap0, rfl⟩
      · have hz := hcell 0 (f 0) (by rw [List.getElem?_map, List.getElem?_range (by omega)]; rfl) 0 (.int .i64 (f 0).dO) rfl
        have ea : a.add (0 * 11 + 0) = a := by simp [Addr.add]
        rw [ea] at hz
        obtain ⟨b, off, spot⟩ := a
        unfold World.cell? at hz
        cases hbk : w.heap[b]? with
        | none => simp [hbk] at hz
        | some ob =>
          simp only [hbk] at hz
          cases ob with
          | cells C T fz =>
            cases spot with
            | some x => simp at hz
            | none =>
              refine .inr ⟨b, off, cap0, C, T, fz, ?_, rfl, hbk, ?_⟩
              · simp
              · intro i o ho j v hv
                have := hcell i o ho j v hv
                have ead : (⟨b, off, none⟩ : Addr).add (i * 11 + j) = ⟨b, off + (i * 11 + j), none⟩ := by
                  unfold Addr.add
                  split <;> simp_all
                rw [ead] at this
                simpa [World.cell?, hbk] using this
          | _ => simp at hz
end
theorem byteArray_eta (s : ByteArray) : (⟨s.data.toList.toArray⟩ : ByteArray) = s := by cases s; simp
end Go.Proofs.TX
