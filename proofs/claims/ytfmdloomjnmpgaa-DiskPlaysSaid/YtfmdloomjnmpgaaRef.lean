/-
  The reference's disk: the same plain state, its bytes a string.
-/
import Derived.Test.YtfmdloomjnmpgaaOps3
import Derived.Deep.LoopGhost
namespace Go.Proofs.Ytfmdloomjnmpgaa
open Go.RowKit

def bstr (l : List UInt8) : ByteArray := ⟨l.toArray⟩

structure RefIn (w : World) (base h : Nat) (s : St) (vf : Value) : Prop where
  blk : Blk w h 37 #[.int .i64 s.size, vf, .string (bstr s.b), .int .i64 s.synced, .int .i64 s.calls, .bool s.down]
  faults : w.ownsRow base 44 2 vf s.faults.length (faultCells s.faults)
  base : base ≤ h
  ok : s.Ok
def RefAt (w : World) (base h : Nat) (s : St) : Prop := ∃ vf, RefIn w base h s vf

theorem RefIn.cells {w : World} {base g : Nat} {s : St} {vf : Value} (h : RefIn w base g s vf) :
    w.cell? ⟨g, 0, none⟩ = some (.int .i64 s.size) ∧ w.cell? ⟨g, 1, none⟩ = some vf ∧ w.cell? ⟨g, 2, none⟩ = some (.string (bstr s.b)) ∧ w.cell? ⟨g, 3, none⟩ = some (.int .i64 s.synced) ∧ w.cell? ⟨g, 4, none⟩ = some (.int .i64 s.calls) ∧ w.cell? ⟨g, 5, none⟩ = some (.bool s.down) :=
  ⟨h.blk.cell 0, h.blk.cell 1, h.blk.cell 2, h.blk.cell 3, h.blk.cell 4, h.blk.cell 5⟩
theorem RefIn.lt {w : World} {base g : Nat} {s : St} {vf : Value} (h : RefIn w base g s vf) : g < w.heap.size := h.blk.lt
theorem RefIn.keeps {ts : List TypeId} {b2 : Nat} {w w' : World} {base g : Nat} {s : St} {vf : Value} (h : RefIn w base g s vf) (k : Keeps ts b2 w w') (h44 : 44 ∉ ts) (h37 : 37 ∉ ts) : RefIn w' base g s vf :=
  ⟨k.blk h.blk h37, k.own h.faults h44, h.base, h.ok⟩
theorem RefIn.below {w w' : World} {base g : Nat} {s : St} {vf : Value} (h : RefIn w base g s vf) (k : Below w.heap.size w w') : RefIn w' base g s vf :=
  h.keeps (ts := []) (b2 := 0) (Keeps.of_below k (Nat.zero_le _)) (by simp) (by simp)
theorem RefIn.drew {w : World} {base g : Nat} {s : St} {vf : Value} (h : RefIn w base g s vf) : RefIn w.drew base g s vf := ⟨h.blk, h.faults, h.base, h.ok⟩
theorem RefIn.drewN {w : World} {base g : Nat} {s : St} {vf : Value} (h : RefIn w base g s vf) (n : Nat) : RefIn (w.drewN n) base g s vf := ⟨h.blk, h.faults, h.base, h.ok⟩
theorem RefAt.keeps {ts : List TypeId} {b2 : Nat} {w w' : World} {base g : Nat} {s : St} (h : RefAt w base g s) (k : Keeps ts b2 w w') (h44 : 44 ∉ ts) (h37 : 37 ∉ ts) : RefAt w' base g s := by
  obtain ⟨vf, h⟩ := h
  exact ⟨vf, h.keeps k h44 h37⟩
theorem RefAt.below {w w' : World} {base g : Nat} {s : St} (h : RefAt w base g s) (k : Below w.heap.size w w') : RefAt w' base g s := by
  obtain ⟨vf, h⟩ := h
  exact ⟨vf, h.below k⟩

section
variable {w : World} {base g : Nat} {s : St} {vf : Value}
theorem RefIn.setCalls (h : RefIn w base g s vf) (n : Nat) (hn : n ≤ 1000000) : RefIn (w.setCell ⟨g, 4, none⟩ (.int .i64 n)) base g { s with calls := n } vf := by
  have k := keeps_set (ts := [37]) h.blk h.base (by simp) 4 (.int .i64 n)
  exact ⟨h.blk.set_ 4 _, k.own h.faults (by simp), h.base, ⟨h.ok.synced, h.ok.size, h.ok.most, h.ok.few, hn, h.ok.keep⟩⟩
theorem RefIn.setDown (h : RefIn w base g s vf) (d : Bool) : RefIn (w.setCell ⟨g, 5, none⟩ (.bool d)) base g { s with down := d } vf := by
  have k := keeps_set (ts := [37]) h.blk h.base (by simp) 5 (.bool d)
  exact ⟨h.blk.set_ 5 _, k.own h.faults (by simp), h.base, ⟨h.ok.synced, h.ok.size, h.ok.most, h.ok.few, h.ok.calls, h.ok.keep⟩⟩
theorem RefIn.setSynced (h : RefIn w base g s vf) (n : Nat) (hn : n ≤ s.b.length) : RefIn (w.setCell ⟨g, 3, none⟩ (.int .i64 n)) base g { s with synced := n } vf := by
  have k := keeps_set (ts := [37]) h.blk h.base (by simp) 3 (.int .i64 n)
  exact ⟨h.blk.set_ 3 _, k.own h.faults (by simp), h.base, ⟨hn, h.ok.size, h.ok.most, h.ok.few, h.ok.calls, h.ok.keep⟩⟩
theorem RefIn.setBytes (h : RefIn w base g s vf) (l : List UInt8) (h1 : s.synced ≤ l.length) (h2 : l.length ≤ s.size) : RefIn (w.setCell ⟨g, 2, none⟩ (.string (bstr l))) base g { s with b := l } vf := by
  have k := keeps_set (ts := [37]) h.blk h.base (by simp) 2 (.string (bstr l))
  exact ⟨h.blk.set_ 2 _, k.own h.faults (by simp), h.base, ⟨h1, h2, h.ok.most, h.ok.few, h.ok.calls, h.ok.keep⟩⟩
theorem RefIn.setFaults (h : RefIn w base g s vf) {v : Value} {l : List (Int × Int)} (hv : w.ownsRow base 44 2 v l.length (faultCells l)) (h1 : l.length ≤ 1000)
    (h2 : ∀ f ∈ l, -9223372036854775808 ≤ f.2 ∧ f.2 ≤ 9223372036854775807) : RefIn (w.setCell ⟨g, 1, none⟩ v) base g { s with faults := l } v := by
  have k := keeps_set (ts := [37]) h.blk h.base (by simp) 1 v
  exact ⟨h.blk.set_ 1 _, k.own hv (by simp), h.base, ⟨h.ok.synced, h.ok.size, h.ok.most, h1, h.ok.calls, h2⟩⟩
end

set_option maxHeartbeats 400000 in
theorem refnew_bad (A : Option Addr) (l c : Nat) (n : Int) (w : World) (h : n < 0 ∨ 1048576 < n) :
    Calls Try.prog 10 #[.int .i64 n, .slice A l c] w fun e w' => e = .returned (.pointer none) ∧ w' = w := by
  by_cases h1 : n < 0
  · clear h
    go_enter Try.func10, Try.ntmps10
    go_wp2_with fail
    go_ret
    exact ⟨rfl, rfl⟩
  · have h2 : 1048576 < n := by omega
    clear h
    go_enter Try.func10, Try.ntmps10
    go_wp2_with fail
    go_ret
    exact ⟨rfl, rfl⟩

set_option maxHeartbeats 400000 in
theorem refnew_any (A : Option Addr) (fs : List (Int × Int)) (c base : Nat) (n : Nat) (w : World) (hn : n ≤ 1048576) (hbase : base ≤ w.heap.size)
    (hr : Reads w w.heap.size 2 A fs.length (faultCells fs)) (hl : fs.length ≤ 1000) (hk : ∀ f ∈ fs, -9223372036854775808 ≤ f.2 ∧ f.2 ≤ 9223372036854775807) :
    Calls Try.prog 10 #[.int .i64 n, .slice A fs.length c] w fun e w' => ∃ g, e = .returned (.pointer (some ⟨g, 0, none⟩)) ∧ RefAt w' base g (St.new n fs) ∧ Below w.heap.size w w' ∧ w.heap.size ≤ g := by
  obtain ⟨i0, hi0, hz0, hz1, hz2⟩ := info_parts info44
  go_enter Try.func10, Try.ntmps10
  go_wp2_with (at_builtin; refine wpList_append_any _ rfl (.tmp 12) (.tmp 13) _ rfl w.heap.size 44 i0 _ 2 16 Try.underlying22 hi0 hz0 hz1 hz2 rfl (by omega) (.slice (some ⟨w.heap.size, 0, none⟩) 0 0) 0 [] rfl (World.ownsRow_made w #[] 0 (Nat.le_refl _) (by simp [maxLen]) (by simp)) w.heap.size A fs.length c (faultCells fs) rfl (hr.alloc (Nat.le_refl _) _) (faultCells_one fs) (by simp only [maxLen]; omega) (by omega) (by simp) ?_; intro v1 w1 hown hg _; obtain ⟨A1, c1, rfl, -, -⟩ := own_slice hown; have H1 := Lib.hid (And.intro hown hg); clear hown hg)
  go_ret
  obtain ⟨ho, hg⟩ := H1.out
  have hb : Below w.heap.size w w1 := ((Below.refl _ _).alloc (Nat.le_refl _) _).grown hg (by simp) (by simp [Value.ownBlock])
  have hbb : base ≤ w1.heap.size := Nat.le_trans hbase hb.size
  have ho' : w1.ownsRow base 44 2 (.slice A1 fs.length c1) fs.length (faultCells fs) := own_base (by simpa using ho) hbase
  exact ⟨w1.heap.size, rfl, ⟨_, Blk.new w1 37 _, ho'.alloc _, hbb, ⟨Nat.le_refl _, Nat.zero_le _, hn, hl, Nat.zero_le _, hk⟩⟩, hb.alloc hb.size _, hb.size⟩
end Go.Proofs.Ytfmdloomjnmpgaa
