/-
  DiskPlays' arguments as they came in: a slice of faults, a slice of steps. The first section (a slice of structs opened to its cells) began as the kit's page extra-structs.md.
-/
import Derived.Test.YtfmdloomjnmpgaaPlay0
import Derived.Test.YtfmdloomjnmpgaaArgs
import Derived.Deep.Slices
import Derived.Deep.Fields
import Derived.ChangeSame
import Derived.OpenShut
namespace Go.Proofs.Ytfmdloomjnmpgaa
open Go.RowKit Go.ChangeShapes Go.WideShapes Go.Deep

section
variable {H : Type} {enc : TypeId × Value → H} {P : Program} {w : World} {base : Nat} {spare : Nat → Bool} {held : Bool}
theorem open_slice_fields {t e : TypeId} {fs : Array Field} {fuel : Nat} {cs : List Value} {x : DataW H × List MemPlace} (ht : P.underlying t = some (.slice e)) (he : P.underlying e = some (.struct fs))
    (hone : oneCellFields P fs = true) (hC : P.cellsOf e = fs.size) (h : DataW.trod enc P w base spare held fuel t cs = some x) :
    (cs = [.slice none 0 0] ∧ x = (.nil, [])) ∨
    ∃ (a : Addr) (len cap m : Nat) (D : Nat → DataW H) (Pl : Nat → List MemPlace), cs = [.slice (some a) len cap] ∧ base ≤ a.block ∧ len ≤ cap ∧ cap ≤ maxLen ∧ m = (if spare a.block then cap else len) ∧
      x = (.slice ((List.range len).map D) ((List.range (m - len)).map fun j => D (len + j)), MemPlace.row a (m * fs.size) ++ (List.range m).flatMap Pl) ∧
      ∀ i, i < m → ∃ (ys : List (DataW H × List MemPlace)) (n : Nat), D i = .agg (ys.map (·.1)) ∧ Pl i = ys.flatMap (·.2) ∧ ys.length = fs.size ∧
        ∀ (j : Nat) (f : Field), fs[j]? = some f → ∃ (v : Value) (y : DataW H × List MemPlace), w.cell? (a.add (i * fs.size + j)) = some v ∧ ys[j]? = some y ∧ DataW.trod enc P w base spare held n f.type [v] = some y := by
  rcases open_slice ht h with h0 | ⟨a, len, cap, m, n, D, Pl, hcs, hb, hl, hm, hmm, hx, hi⟩
  · exact .inl h0
  · refine .inr ⟨a, len, cap, m, D, Pl, hcs, hb, hl, hm, hmm, by rw [hC] at hx; exact hx, fun i him => ?_⟩
    obtain ⟨cs', hc, ht'⟩ := hi i him
    rw [hC] at hc
    obtain ⟨ys, n', hn', hy, hlen, hyl, hf⟩ := DataW.trod_struct he ht'
    obtain ⟨_, hcl, hat⟩ := World.cells?_some hc
    simp only [Prod.mk.injEq] at hy
    refine ⟨ys, n', hy.1, hy.2, hyl, fun j f hj => ?_⟩
    obtain ⟨ho, hk⟩ := hone_of hone j f hj
    have hjl : j < fs.size := (Array.getElem?_eq_some_iff.1 hj).1
    have hcell := hat j hjl
    have hv : cs'[j]? = some (cs'[j]'(by omega)) := List.getElem?_eq_getElem (by omega)
    have h1 := hf j f hj
    rw [ho, hk] at h1
    have hone' : (cs'.drop j).take 1 = [cs'[j]'(by omega)] := by
      rw [List.drop_eq_getElem_cons (by omega)]
      rfl
    rw [hone'] at h1
    have hys : ys[j]? = some (ys[j]'(by omega)) := List.getElem?_eq_getElem (by omega)
    refine ⟨_, _, ?_, hys, h1.trans hys⟩
    rw [← Go.Deep.add_add, hcell, hv]
end

theorem faults_in {H : Type} {enc : TypeId × Value → H} {W : World} {held : Bool} {fuel len cap : Nat} {A : Option Addr} {x : DataW H × List MemPlace} (hf : DataW.trod enc Try.prog W 0 (fun _ => true) held fuel 22 [.slice A len cap] = some x) :
    ∃ fs : List (Int × Int), fs.length = len ∧ Reads W W.heap.size 2 A fs.length (faultCells fs) ∧ ∀ f ∈ fs, -9223372036854775808 ≤ f.2 ∧ f.2 ≤ 9223372036854775807 := by
  rcases open_slice_fields Try.underlying22 Try.underlying44 (by kernel_rfl) (by kernel_rfl) hf with ⟨hcs, -⟩ | ⟨a, len', cap', m, D, Pl, hcs, -, hl, hm, hmm, -, hrow⟩
  · simp at hcs
    obtain ⟨rfl, rfl, rfl⟩ := hcs
    exact ⟨[], rfl, ⟨by simp [faultCells], fun h => absurd h (by simp)⟩, fun f hf => by cases hf⟩
  · simp at hcs
    obtain ⟨rfl, rfl, rfl⟩ := hcs
    have each : ∀ r, r < len → ∃ p : Int × Int, W.cell? (a.add (r * 2)) = some (.int .i64 p.1) ∧ W.cell? (a.add (r * 2 + 1)) = some (.int .i64 p.2) ∧ -9223372036854775808 ≤ p.2 ∧ p.2 ≤ 9223372036854775807 := by
      intro r hr
      obtain ⟨ys, n, -, -, -, hg⟩ := hrow r (by rw [hmm]; simp; omega)
      obtain ⟨v0, y0, c0, -, t0⟩ := hg 0 _ rfl
      obtain ⟨v1, y1, c1, -, t1⟩ := hg 1 _ rfl
      obtain ⟨n0, e0, -, w0⟩ := DataW.trod_int Try.underlying3 t0
      obtain ⟨n1, e1, -, w1⟩ := DataW.trod_int Try.underlying3 t1
      simp at e0 e1
      subst e0 e1
      exact ⟨(n0, n1), c0, c1, bounds_i64 w1⟩
    obtain ⟨fs, hfl, hfs⟩ : ∃ fs : List (Int × Int), fs.length = len ∧ ∀ r (h : r < fs.length), W.cell? (a.add (r * 2)) = some (.int .i64 (fs[r]'h).1) ∧ W.cell? (a.add (r * 2 + 1)) = some (.int .i64 (fs[r]'h).2) ∧ -9223372036854775808 ≤ (fs[r]'h).2 ∧ (fs[r]'h).2 ≤ 9223372036854775807 := by
      refine ⟨(List.finRange len).map fun r => Classical.choose (each r.1 r.2), by simp, fun r h => ?_⟩
      have h2 : r < len := by simpa using h
      have hs := Classical.choose_spec (each r h2)
      have he : ((List.finRange len).map fun r => Classical.choose (each r.1 r.2))[r]'h = Classical.choose (each r h2) := by simp
      rw [he]
      exact hs
    refine ⟨fs, hfl, ⟨faultCells_len fs, fun hn => ⟨a, rfl, ?_, fun j u hu => ?_⟩⟩, fun f hf => ?_⟩
    · have := World.block_lt_of_cell? W _ (hfs 0 hn).1
      rwa [block_of_add] at this
    · have hj : j < fs.length * 2 := by
        have := (List.getElem?_eq_some_iff.1 hu).1
        rwa [faultCells_len] at this
      obtain ⟨k, hk⟩ : ∃ k, j = k * 2 ∨ j = k * 2 + 1 := ⟨j / 2, by omega⟩
      rcases hk with rfl | rfl
      · rw [faultCells_at0 fs k (by omega)] at hu
        rw [(hfs k (by omega)).1]
        exact hu
      · rw [faultCells_at1 fs k (by omega)] at hu
        rw [(hfs k (by omega)).2.1]
        exact hu
    · obtain ⟨r, h, rfl⟩ := List.getElem_of_mem hf
      exact (hfs r h).2.2

theorem ops_in {H : Type} {enc : TypeId × Value → H} {W : World} {held : Bool} {fuel len cap : Nat} {A : Option Addr} {x : DataW H × List MemPlace} (hf : DataW.trod enc Try.prog W 0 (fun _ => true) held fuel 23 [.slice A len cap] = some x) :
    ∃ ops : List OpV, ops.length = len ∧ OpsIn W A ops := by
  rcases open_slice_fields Try.underlying23 Try.underlying31 (by kernel_rfl) (by kernel_rfl) hf with ⟨hcs, -⟩ | ⟨a, len', cap', m, D, Pl, hcs, -, hl, hm, hmm, -, hrow⟩
  · simp at hcs
    obtain ⟨rfl, rfl, rfl⟩ := hcs
    exact ⟨[], rfl, fun i h => absurd h (by simp)⟩
  · simp at hcs
    obtain ⟨rfl, rfl, rfl⟩ := hcs
    have each : ∀ r, r < len → ∃ o : OpV, ∃ B c, OpAt W a r o B c := by
      intro r hr
      obtain ⟨ys, n, -, -, -, hg⟩ := hrow r (by rw [hmm]; simp; omega)
      obtain ⟨v0, y0, c0, -, t0⟩ := hg 0 _ rfl
      obtain ⟨v1, y1, c1, -, t1⟩ := hg 1 _ rfl
      obtain ⟨v2, y2, c2, -, t2⟩ := hg 2 _ rfl
      obtain ⟨n0, e0, -, w0⟩ := DataW.trod_int Try.underlying3 t0
      obtain ⟨n1, e1, -, w1⟩ := DataW.trod_int Try.underlying3 t1
      simp at e0 e1
      subst e0 e1
      rcases open_ints Try.underlying29 Try.underlying5 (by kernel_rfl) t2 with ⟨hcs, _⟩ | ⟨x, l, c, zs, hcs, _, hl, hm, hz, _, hcell, hwz⟩
      · simp at hcs
        subst hcs
        exact ⟨⟨n0, n1, []⟩, none, 0, c0, c1, c2, Nat.le_refl _, ⟨by simp [byteV], fun h => absurd h (by simp)⟩, bounds_i64 w0, bounds_i64 w1⟩
      · simp at hcs
        subst hcs
        obtain ⟨bs, hbl, hbc, hbr⟩ := row_reads (w := W) (a := some x) (len := l) (cap := c) (zs := zs) (.inr ⟨x, rfl, hl, hm, by simpa using hz, hcell, hwz⟩)
        subst hbl
        exact ⟨⟨n0, n1, bs⟩, some x, c, c0, c1, c2, hbc, hbr, bounds_i64 w0, bounds_i64 w1⟩
    refine ⟨(List.finRange len).map fun r => Classical.choose (each r.1 r.2), by simp, fun r h => ?_⟩
    have h2 : r < len := by simpa using h
    have hs := Classical.choose_spec (each r h2)
    have he : ((List.finRange len).map fun r => Classical.choose (each r.1 r.2))[r]'h = Classical.choose (each r h2) := by simp
    rw [he]
    obtain ⟨B, c, ho⟩ := hs
    exact ⟨a, B, c, rfl, ho⟩
end Go.Proofs.Ytfmdloomjnmpgaa
