/-
  The disk's other calls: Up and New.
-/
import Derived.Test.YtfmdloomjnmpgaaOps2
namespace Go.Proofs.Ytfmdloomjnmpgaa
open Go.RowKit

def St.up (s : St) (fs : List (Int × Int)) : St := { s with down := false, calls := 0, faults := fs }
def St.new (size : Nat) (fs : List (Int × Int)) : St := { b := [], synced := 0, size := size, faults := fs, calls := 0, down := false }

set_option maxHeartbeats 400000 in
theorem up_any (A : Option Addr) (fs : List (Int × Int)) (c g base : Nat) (s : St) (w : World) (h : DiskAt w base g s) (hbase : base ≤ w.heap.size)
    (hr : Reads w w.heap.size 2 A fs.length (faultCells fs)) (hl : fs.length ≤ 1000) (hk : ∀ f ∈ fs, -9223372036854775808 ≤ f.2 ∧ f.2 ≤ 9223372036854775807) :
    Calls Try.prog 17 #[.pointer (some ⟨g, 0, none⟩), .slice A fs.length c] w fun e w' => e = .returned (.tuple #[]) ∧ DiskAt w' base g (s.up fs) ∧ Keeps [52] base w w' := by
  obtain ⟨vb, vf, hd⟩ := h
  obtain ⟨-, -, -, p3, p4, p5⟩ := hd.cells
  have hlt := hd.lt
  have z3 := hd.blk.frozen 3
  have z4 := hd.blk.frozen 4
  have z5 := hd.blk.frozen 5
  have HD := Lib.hid hd
  clear hd
  go_enter Try.func17, Try.ntmps17
  go_wp2_with fail
  refine (clone_faults A fs.length c (faultCells fs) _ hr (faultCells_one fs) (by omega)).mono ?_
  rintro e w1 ⟨v1, rfl, hown, hb⟩
  obtain ⟨A1, c1, rfl, -, -⟩ := own_slice hown
  have e3 := (hb.cell (p := ⟨g, 3, none⟩) hlt).trans p3
  have e4 := (hb.cell (p := ⟨g, 4, none⟩) hlt).trans p4
  have e5 := (hb.cell (p := ⟨g, 5, none⟩) hlt).trans p5
  have y3 := (hb.frozen (p := ⟨g, 3, none⟩) hlt).trans z3
  have y4 := (hb.frozen (p := ⟨g, 4, none⟩) hlt).trans z4
  have y5 := (hb.frozen (p := ⟨g, 5, none⟩) hlt).trans z5
  have HX : Hid (DiskIn w1 base g s vb vf ∧ Keeps [52] base w w1 ∧ w1.ownsRow base 44 2 (.slice A1 fs.length c1) fs.length (faultCells fs)) :=
    ⟨HD.out.below hb, (Keeps.refl _ _ _).then_ hbase hb, own_base hown hbase⟩
  clear hown hb p3 p4 p5 z3 z4 z5
  go_wp2_with fail
  go_end0
  obtain ⟨d1, k1, ho⟩ := HX.out
  have d2 := d1.setDown false
  have q2 := keeps_set (ts := [52]) d1.blk d1.base (by simp) 5 (.bool false)
  have d3 := d2.setCalls 0 (by omega)
  have q3 := keeps_set (ts := [52]) d2.blk d2.base (by simp) 4 (.int .i64 ((0 : Nat) : Int))
  have ho3 := q3.own (q2.own ho (by simp)) (by simp)
  have d4 := d3.setFaults (l := fs) ho3 hl hk
  have q4 := keeps_set (ts := [52]) d3.blk d3.base (by simp) 3 (.slice A1 fs.length c1)
  exact ⟨rfl, ⟨_, _, d4⟩, k1.trans (q2.trans (q3.trans q4))⟩

set_option maxHeartbeats 400000 in
theorem new_bad (A : Option Addr) (l c : Nat) (n : Int) (w : World) (h : n < 0 ∨ 1048576 < n) :
    Calls Try.prog 9 #[.int .i64 n, .slice A l c] w fun e w' => e = .returned (.pointer none) ∧ w' = w := by
  by_cases h1 : n < 0
  · clear h
    go_enter Try.func9, Try.ntmps9
    go_wp2_with fail
    go_ret
    exact ⟨rfl, rfl⟩
  · have h2 : 1048576 < n := by omega
    clear h
    go_enter Try.func9, Try.ntmps9
    go_wp2_with fail
    go_ret
    exact ⟨rfl, rfl⟩

set_option maxHeartbeats 400000 in
theorem new_any (A : Option Addr) (fs : List (Int × Int)) (c base : Nat) (n : Nat) (w : World) (hn : n ≤ 1048576) (hbase : base ≤ w.heap.size)
    (hr : Reads w w.heap.size 2 A fs.length (faultCells fs)) (hl : fs.length ≤ 1000) (hk : ∀ f ∈ fs, -9223372036854775808 ≤ f.2 ∧ f.2 ≤ 9223372036854775807) :
    Calls Try.prog 9 #[.int .i64 n, .slice A fs.length c] w fun e w' => ∃ g, e = .returned (.pointer (some ⟨g, 0, none⟩)) ∧ DiskAt w' base g (St.new n fs) ∧ Below w.heap.size w w' ∧ w.heap.size ≤ g := by
  go_enter Try.func9, Try.ntmps9
  go_wp2_with fail
  refine (clone_faults A fs.length c (faultCells fs) _ hr (faultCells_one fs) (by omega)).mono ?_
  rintro e w1 ⟨v1, rfl, hown, hb⟩
  obtain ⟨A1, c1, rfl, -, -⟩ := own_slice hown
  have H1 := Lib.hid (And.intro (own_base hown hbase) hb)
  clear hown hb
  go_wp2_with fail
  go_ret
  obtain ⟨ho, hb⟩ := H1.out
  refine ⟨w1.heap.size, rfl, ⟨.slice none 0 0, .slice A1 fs.length c1, ?_⟩, hb.alloc hb.size _, hb.size⟩
  have hbb : base ≤ w1.heap.size := Nat.le_trans hbase hb.size
  exact ⟨Blk.new w1 52 _, World.ownsRow_nil _ _ _ _, ho.alloc _, hbb, ⟨Nat.le_refl _, Nat.zero_le _, hn, hl, Nat.zero_le _, hk⟩⟩
end Go.Proofs.Ytfmdloomjnmpgaa
