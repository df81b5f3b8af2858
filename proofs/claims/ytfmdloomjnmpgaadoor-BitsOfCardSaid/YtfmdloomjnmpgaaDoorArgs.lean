/-
  What the rows' conditions give the walks: arguments that came in, read as lists; the library's table, in its variable.
-/
import Derived.Test.YtfmdloomjnmpgaaDoorTold
import Derived.Test.YtfmdloomjnmpgaaDoorRows
import Derived.Lib.LaidTab
import Derived.LaidMore
import Derived.OpenShut
import Derived.Stop.Joined
namespace Go.Proofs.YtfmdloomjnmpgaaDoor
open Go.RowKit

/-- A slice of integers that came in. -/
def RowOf (k : IntKind) (w : World) (a : Option Addr) (len cap : Nat) (zs : List Int) : Prop :=
  (a = none ∧ len = 0 ∧ cap = 0 ∧ zs = []) ∨
  ∃ x, a = some x ∧ len ≤ cap ∧ cap ≤ maxLen ∧ zs.length = cap ∧ (∀ i, i < zs.length → w.cell? (x.add i) = some (.int k (zs.getD i 0))) ∧ ∀ n ∈ zs, (Lit.int k n).wf = true
theorem row_cells {k : IntKind} {w : World} {x : Addr} {len : Nat} {zs : List Int} (hl : len ≤ zs.length) (hc : ∀ i, i < zs.length → w.cell? (x.add i) = some (.int k (zs.getD i 0))) :
    Reads w w.heap.size 1 (some x) len ((zs.take len).map (Value.int k)) := by
  refine ⟨by simp; omega, fun hn => ⟨x, rfl, ?_, fun j u hu => ?_⟩⟩
  · have h0 := World.block_lt_of_cell? w _ (hc 0 (by omega))
    rwa [block_of_add] at h0
  · rw [List.getElem?_map, List.getElem?_take] at hu
    split at hu
    · rename_i hj
      have hj2 : j < zs.length := by omega
      rw [List.getElem?_eq_getElem hj2] at hu
      rw [hc j hj2]
      simp at hu
      rw [← hu]
      simp [List.getD, List.getElem?_eq_getElem hj2]
    · simp at hu
theorem ints_reads {w : World} {a : Option Addr} {len cap : Nat} {zs : List Int} (h : RowOf .i64 w a len cap zs) : ∃ l : List Int, l.length = len ∧ len ≤ cap ∧ Reads w w.heap.size 1 a l.length (intV l) := by
  rcases h with ⟨rfl, rfl, rfl, rfl⟩ | ⟨x, rfl, hlc, _, hz, hc, hw⟩
  · exact ⟨[], rfl, Nat.le_refl _, Reads.none_⟩
  · have hl : (zs.take len).length = len := by simp; omega
    refine ⟨zs.take len, hl, hlc, ?_⟩
    rw [hl]
    exact row_cells (by omega) hc
theorem words_reads {w : World} {a : Option Addr} {len cap : Nat} {zs : List Int} (h : RowOf .u64 w a len cap zs) : ∃ l : List UInt64, l.length = len ∧ len ≤ cap ∧ Reads w w.heap.size 1 a l.length (wordV l) := by
  rcases h with ⟨rfl, rfl, rfl, rfl⟩ | ⟨x, rfl, hlc, _, hz, hc, hw⟩
  · exact ⟨[], rfl, Nat.le_refl _, Reads.none_⟩
  · have hl : ((zs.take len).map fun z => UInt64.ofNat z.toNat).length = len := by simp; omega
    refine ⟨(zs.take len).map fun z => UInt64.ofNat z.toNat, hl, hlc, ?_⟩
    rw [hl]
    have e : wordV ((zs.take len).map fun z => UInt64.ofNat z.toNat) = (zs.take len).map (Value.int .u64) := by
      simp only [wordV, List.map_map]
      refine List.map_congr_left fun z hz2 => ?_
      have hb := bounds_u64 (hw z (List.mem_of_mem_take hz2))
      simp only [Function.comp]
      congr 1
      rw [ofNat_lt (by omega)]
      omega
    rw [e]
    exact row_cells (by omega) hc
theorem i64_le {n : Int} (h : (Lit.int .i64 n).wf = true) : n ≤ 9223372036854775807 := (bounds_i64 h).2

abbrev laidL : List (String × DataW Unit) := [("math/bits.deBruijn64tab", Rows.laid_math_bits_deBruijn64tab)]
theorem gTab : Tryd.prog.globalNamed "math/bits.deBruijn64tab" = some 0 := by kernel_rfl
theorem tTab : (Tryd.prog.globals[0]?).map (·.type) = some 50 := by kernel_rfl
def tabInts : List Int := Lib.deBruijn64tab.map fun n : Nat => (n : Int)
theorem laid_is : (Rows.laid_math_bits_deBruijn64tab : DataW Unit) = Lib.tabData .u8 tabInts := rfl
/-- The door's own heap meets the condition. -/
theorem door_met (os : Os) (args : Array Value) : laidMetH Tryd.prog laidL ((World.doorLaid Tryd.prog 14 os).forCall (fun _ _ => 0) ⟨#[], args, []⟩).memory :=
  laidMetH_of_parts3 (fuel := 8) (laidMet_of_run' 8 (by kernel_rfl) (by kernel_rfl)) (by kernel_rfl) (by kernel_rfl)
theorem tab_of_laid {W : World} (h : laidMetH Tryd.prog laidL W) : Tab W := by
  rw [MakeChecks.laidMetH_plain _ _ _ (by kernel_rfl)] at h
  have h2 : laidMet Tryd.prog [("math/bits.deBruijn64tab", Lib.tabData .u8 tabInts)] W := by
    rw [← laid_is]
    exact h
  have hT := Lib.tabIs_of_head gTab tTab Tryd.underlying50 Tryd.underlying5 (by kernel_rfl) (by kernel_rfl) h2
  have hc : ∀ j, j < 64 → W.cell? ⟨0, j, none⟩ = some (.int .u8 (Lib.deBruijn64tab.getD j 0)) := by
    intro j hj
    rw [hT.cell gTab j (by simpa [tabInts, Lib.deBruijn64tab] using hj)]
    congr 2
    simp [tabInts, List.getD, List.getElem?_map]
    cases Lib.deBruijn64tab[j]? <;> rfl
  exact ⟨World.block_lt_of_cell? W _ (hc 0 (by omega)), hc⟩
end Go.Proofs.YtfmdloomjnmpgaaDoor
