/-
  Arguments that came in as slices of bytes, read as lists of bytes.
-/
import Derived.Test.YtfmdloomjnmpgaaSt
import Derived.OpenShut
namespace Go.Proofs.Ytfmdloomjnmpgaa
open Go.RowKit

def bytesOfInts (zs : List Int) : List UInt8 := zs.map fun z => UInt8.ofNat z.toNat
theorem bytesOfInts_byteV {zs : List Int} (h : ∀ n ∈ zs, (Lit.int .u8 n).wf = true) : byteV (bytesOfInts zs) = zs.map (Value.int .u8) := by
  simp only [byteV, bytesOfInts, List.map_map]
  refine List.map_congr_left fun z hz => ?_
  have := bounds_u8 (h z hz)
  simp only [Function.comp]
  congr 1
  simp
  omega
theorem row_reads {w : World} {a : Option Addr} {len cap : Nat} {zs : List Int} (h : (a = none ∧ len = 0 ∧ cap = 0 ∧ zs = []) ∨
    ∃ x, a = some x ∧ len ≤ cap ∧ cap ≤ maxLen ∧ zs.length = cap ∧ (∀ i, i < zs.length → w.cell? (x.add i) = some (.int .u8 (zs.getD i 0))) ∧ ∀ n ∈ zs, (Lit.int .u8 n).wf = true) :
    ∃ l : List UInt8, l.length = len ∧ len ≤ cap ∧ Reads w w.heap.size 1 a l.length (byteV l) := by
  rcases h with ⟨rfl, rfl, rfl, rfl⟩ | ⟨x, rfl, hlc, _, hz, hc, hw⟩
  · exact ⟨[], rfl, Nat.le_refl _, by simp [byteV], fun h => absurd h (by simp)⟩
  · have hb := bytesOfInts_byteV (zs := zs.take len) (fun n hn => hw n (List.mem_of_mem_take hn))
    have hl : (bytesOfInts (zs.take len)).length = len := by simp [bytesOfInts]; omega
    refine ⟨bytesOfInts (zs.take len), hl, hlc, by rw [byteV_len]; omega, fun hn => ⟨x, rfl, ?_, fun j u hu => ?_⟩⟩
    · have h0 := World.block_lt_of_cell? w _ (hc 0 (by omega))
      rwa [block_of_add] at h0
    · rw [hb, List.getElem?_map, List.getElem?_take] at hu
      split at hu
      · rename_i hj
        have hj2 : j < zs.length := by omega
        rw [List.getElem?_eq_getElem hj2] at hu
        rw [hc j hj2]
        simp at hu
        rw [← hu]
        simp [List.getD, List.getElem?_eq_getElem hj2]
      · simp at hu
end Go.Proofs.Ytfmdloomjnmpgaa
