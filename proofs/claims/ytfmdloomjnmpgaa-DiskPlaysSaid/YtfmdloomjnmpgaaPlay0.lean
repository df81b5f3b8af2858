/-
  DiskPlays, the parts: the disk and the reference's disk, step by step.
-/
import Derived.Test.YtfmdloomjnmpgaaRefOps2
import Derived.Test.YtfmdloomjnmpgaaSynced
import Derived.Deep.LoopGhost
import Derived.Deep.DeepCutAuto
import Derived.Test.YtfmdloomjnmpgaaQuiet
namespace Go.Proofs.Ytfmdloomjnmpgaa
open Go.RowKit

theorem quiet_load {P : Program} {C : World → Prop} {K : Act → Prop} {a : Act} {o : Oper} {t : TypeId} (x : Operand) (h : o.op = .load t x) {u v : Value} (hu : a.eval x = u) (hv : ∀ w, C w → (Instr.loadAt t u).run P w = .ok v w) (hk : K (a.put o.dst v)) : o.quiet P a C K :=
  ⟨v, fun w hw => by
    unfold Oper.quietAt execOp
    simp only [h, hu, Sem.run_bind, hv w hw, Result.andThen_ok, Sem.run_pure, Oper.quietUpon, and_self], hk⟩
theorem load9 {w : World} {p : Addr} {v : Value} (h : w.cell? p = some v) : (Instr.loadAt 9 (.pointer (some p))).run Try.prog w = .ok v w := by go_simp
theorem load3 {w : World} {p : Addr} {v : Value} (h : w.cell? p = some v) : (Instr.loadAt 3 (.pointer (some p))).run Try.prog w = .ok v w := by go_simp
theorem load4 {w : World} {p : Addr} {v : Value} (h : w.cell? p = some v) : (Instr.loadAt 4 (.pointer (some p))).run Try.prog w = .ok v w := by go_simp
theorem load29 {w : World} {p : Addr} {v : Value} (h : w.cell? p = some v) : (Instr.loadAt 29 (.pointer (some p))).run Try.prog w = .ok v w := by go_simp
theorem bstr_mid (l : List UInt8) (a n : Nat) : (bstr l).extract a (a + n) = bstr ((l.drop a).take n) := by
  apply ByteArray.ext
  apply Array.ext'
  simp [bstr, List.take_drop]

structure OpV where
  k : Int
  n : Int
  b : List UInt8
structure OpAt (w : World) (ad : Addr) (i : Nat) (o : OpV) (B : Option Addr) (c : Nat) : Prop where
  k : w.cell? (ad.add (i * 3)) = some (.int .i64 o.k)
  n : w.cell? (ad.add (i * 3 + 1)) = some (.int .i64 o.n)
  b : w.cell? (ad.add (i * 3 + 2)) = some (.slice B o.b.length c)
  le : o.b.length ≤ c
  reads : Reads w w.heap.size 1 B o.b.length (byteV o.b)
  k0 : -9223372036854775808 ≤ o.k ∧ o.k ≤ 9223372036854775807
  n0 : -9223372036854775808 ≤ o.n ∧ o.n ≤ 9223372036854775807
def OpsIn (w : World) (A : Option Addr) (ops : List OpV) : Prop := ∀ (i : Nat) (h : i < ops.length), ∃ (ad : Addr) (B : Option Addr) (c : Nat), A = some ad ∧ OpAt w ad i (ops[i]'h) B c

def PlayHead (w : World) (g h k : Nat) (st : St) (wr : World) : Prop :=
  DiskAt wr w.heap.size g st ∧ RefAt wr w.heap.size h st ∧ Below w.heap.size w wr ∧ st.calls ≤ k ∧ st.size ≤ 400 ∧ w.heap.size ≤ g

theorem and7 (z : Int) : ∃ kk : Nat, bits .and .i64 z 7 = (kk : Int) ∧ kk < 8 := by
  have h : (BitVec.ofInt 64 z &&& BitVec.ofInt 64 7).toNat < 8 := by
    rw [BitVec.toNat_and]
    have : (BitVec.ofInt 64 7).toNat = 7 := by decide
    rw [this]
    exact Nat.lt_of_le_of_lt (Nat.and_le_right) (by omega)
  refine ⟨(BitVec.ofInt 64 z &&& BitVec.ofInt 64 7).toNat, ?_, h⟩
  exact IntWalk.i64_in (((BitVec.ofInt 64 z &&& BitVec.ofInt 64 7).toNat : Nat) : Int) (by omega)

theorem PlayHead.len {w wr : World} {g h k : Nat} {st : St} (hp : PlayHead w g h k st wr) : st.b.length ≤ 400 := by
  obtain ⟨_, h⟩ := hp.2.1
  have := h.ok.size
  have := hp.2.2.2.2.1
  omega
theorem PlayHead.str {w wr : World} {g h k : Nat} {st : St} (hp : PlayHead w g h k st wr) : wr.cell? ⟨h, 2, none⟩ = some (.string (bstr st.b)) := by
  obtain ⟨_, h⟩ := hp.2.1
  exact h.cells.2.2.1
theorem PlayHead.syn {w wr : World} {g h k : Nat} {st : St} (hp : PlayHead w g h k st wr) : wr.cell? ⟨h, 3, none⟩ = some (.int .i64 st.synced) := by
  obtain ⟨_, h⟩ := hp.2.1
  exact h.cells.2.2.2.1
theorem PlayHead.cls {w wr : World} {g h k : Nat} {st : St} (hp : PlayHead w g h k st wr) : wr.cell? ⟨h, 4, none⟩ = some (.int .i64 st.calls) := by
  obtain ⟨_, h⟩ := hp.2.1
  exact h.cells.2.2.2.2.1
theorem PlayHead.dwn {w wr : World} {g h k : Nat} {st : St} (hp : PlayHead w g h k st wr) : wr.cell? ⟨h, 5, none⟩ = some (.bool st.down) := by
  obtain ⟨_, h⟩ := hp.2.1
  exact h.cells.2.2.2.2.2
theorem PlayHead.behind {w w1 w2 : World} {g h k : Nat} {st : St} (hp : PlayHead w g h k st w1) (kp : Below w1.heap.size w1 w2) : PlayHead w g h k st w2 :=
  ⟨hp.1.below kp, hp.2.1.below kp, hp.2.2.1.trans (kp.mono hp.2.2.1.size), hp.2.2.2⟩
theorem PlayHead.later {w wr : World} {g h k : Nat} {st : St} (hp : PlayHead w g h k st wr) : PlayHead w g h (k + 1) st wr :=
  ⟨hp.1, hp.2.1, hp.2.2.1, by have := hp.2.2.2.1; omega, hp.2.2.2.2⟩
theorem PlayHead.keeps31 {w w1 w2 : World} {g h k : Nat} {st : St} (hp : PlayHead w g h k st w1) (kp : Keeps [31] w.heap.size w1 w2) : PlayHead w g h k st w2 :=
  ⟨hp.1.keeps kp (by simp) (by simp) (by simp), hp.2.1.keeps kp (by simp) (by simp), hp.2.2.1.trans kp.below, hp.2.2.2⟩
theorem play_mid {w w1 w2 : World} {g h k : Nat} {st : St} (hp : PlayHead w g h k st w1) (kp : Keeps [52, 5] w.heap.size w1 w2) : RefAt w2 w.heap.size h st ∧ Below w.heap.size w w2 :=
  ⟨hp.2.1.keeps kp (by simp) (by simp), hp.2.2.1.trans kp.below⟩
theorem play_end {w w2 w3 : World} {g h k : Nat} {st2 : St} (hd : DiskAt w2 w.heap.size g st2) (hb : Below w.heap.size w w2) (hr : RefAt w3 w.heap.size h st2) (kp : Keeps [37] w.heap.size w2 w3) (hc : st2.calls ≤ k + 1) (hs : st2.size ≤ 400) (hg : w.heap.size ≤ g) : PlayHead w g h (k + 1) st2 w3 :=
  ⟨hd.keeps kp (by simp) (by simp) (by simp), hr, hb.trans kp.below, hc, hs, hg⟩
theorem call_size (s : St) (bs : List UInt8) : (s.call bs).2.size = s.size := by
  unfold St.call
  split
  · rfl
  · split <;> rfl
theorem append_size (s : St) (bs : List UInt8) : (s.append bs).2.size = s.size := by
  unfold St.append
  split
  · exact call_size s bs
  · split <;> exact call_size s bs
theorem sync_size (s : St) : s.sync.2.size = s.size := by
  unfold St.sync
  split <;> exact call_size s []
theorem trunc_size (s : St) (n : Int) : (s.trunc n).2.size = s.size := by
  unfold St.trunc
  split
  · exact call_size s []
  · split <;> exact call_size s []
theorem call_calls (s : St) (bs : List UInt8) : (s.call bs).2.calls ≤ s.calls + 1 := by
  unfold St.call
  split
  · simp
  · split <;> simp [St.fell]
theorem trunc_calls (s : St) (n : Int) : (s.trunc n).2.calls ≤ s.calls + 1 := by
  unfold St.trunc
  split
  · exact call_calls s []
  · split <;> exact call_calls s []

theorem play_append {w wo : World} {g h k : Nat} {st : St} {ob : Nat} {o : OpV} {B : Option Addr} {cB : Nat} {ad : Addr} {i : Nat} (hp : PlayHead w g h k st wo) (hb : Blk wo ob 31 #[.int .i64 o.k, .int .i64 o.n, .slice B o.b.length cB]) (ho : OpAt w ad i o B cB) (hl : o.b.length ≤ 100 ∧ k ≤ 50) :
    (Calls Try.prog 11 #[.pointer (some ⟨g, 0, none⟩), .slice B o.b.length cB] wo.drew fun e w2 => e = .returned (.int .i64 (st.append o.b).1) ∧ w2.cell? ⟨ob, 2, none⟩ = some (.slice B o.b.length cB) ∧ (convert 29 9 (.slice B o.b.length cB)).run Try.prog w2 = .ok (.string (bstr o.b)) w2 ∧
      Hid (DiskAt w2 w.heap.size g (st.append o.b).2 ∧ RefAt w2 w.heap.size h st ∧ Below w.heap.size w w2)) ∧
    ∀ w2, Hid (DiskAt w2 w.heap.size g (st.append o.b).2 ∧ RefAt w2 w.heap.size h st ∧ Below w.heap.size w w2) →
      Calls Try.prog 12 #[.pointer (some ⟨h, 0, none⟩), .string (bstr o.b)] w2 fun e w3 => e = .returned (.int .i64 (st.append o.b).1) ∧ Hid (PlayHead w g h (k + 1) (st.append o.b).2 w3) := by
  obtain ⟨h1, h2, h3, h4, h5, h6⟩ := hp
  obtain ⟨hl1, hl2⟩ := hl
  have hb0 : Below wo.heap.size wo wo.drew := (Below.refl _ _).drew
  have hrd := (ho.reads.below h3).more h3.size
  constructor
  · refine (append_any B o.b cB g w.heap.size st wo.drew (h1.below hb0) h3.size (by omega) hrd (ho.reads.apart h6) ho.le (by omega)).mono ?_
    rintro e w2 ⟨rfl, hd, kp⟩
    obtain ⟨m1, m2⟩ := play_mid (w1 := wo.drew) ⟨h1.below hb0, h2.below hb0, h3.drew, h4, h5, h6⟩ kp
    exact ⟨rfl, (kp.blk (w := wo.drew) hb (by simp)).cell 2, conv_reads (ho.reads.below m2), hd, m1, m2⟩
  · intro w2 H
    obtain ⟨m0, m1, m2⟩ := H.out
    refine (refappend_any o.b h w.heap.size st w2 m1 (by omega) (by omega)).mono ?_
    rintro e w3 ⟨rfl, hr, kp⟩
    have := append_calls st o.b
    exact ⟨rfl, Lib.hid (play_end m0 m2 hr kp (by omega) (by rw [append_size]; exact h5) h6)⟩

theorem play_sync {w w0 : World} {g h k : Nat} {st : St} (hp : PlayHead w g h k st w0) (hk : k ≤ 50) :
    (Calls Try.prog 13 #[.pointer (some ⟨g, 0, none⟩)] w0 fun e w2 => e = .returned (.int .i64 st.sync.1) ∧ Hid (DiskAt w2 w.heap.size g st.sync.2 ∧ RefAt w2 w.heap.size h st ∧ Below w.heap.size w w2)) ∧
    ∀ w2, Hid (DiskAt w2 w.heap.size g st.sync.2 ∧ RefAt w2 w.heap.size h st ∧ Below w.heap.size w w2) →
      Calls Try.prog 14 #[.pointer (some ⟨h, 0, none⟩)] w2 fun e w3 => e = .returned (.int .i64 st.sync.1) ∧ Hid (PlayHead w g h (k + 1) st.sync.2 w3) := by
  have hp0 := hp
  obtain ⟨h1, h2, h3, h4, h5, h6⟩ := hp
  constructor
  · refine (sync_any g w.heap.size st w0 h1 h3.size (by omega)).mono ?_
    rintro e w2 ⟨rfl, hd, kp⟩
    obtain ⟨m1, m2⟩ := play_mid hp0 kp
    exact ⟨rfl, Lib.hid ⟨hd, m1, m2⟩⟩
  · intro w2 H
    obtain ⟨m0, m1, m2⟩ := H.out
    refine (refsync_any h w.heap.size st w2 m1 (by omega)).mono ?_
    rintro e w3 ⟨rfl, hr, kp⟩
    have := sync_calls st
    exact ⟨rfl, Lib.hid (play_end m0 m2 hr kp (by omega) (by rw [sync_size]; exact h5) h6)⟩

theorem play_trunc {w wo : World} {g h k : Nat} {st : St} {ob : Nat} {kv bv : Value} {n : Int} (hp : PlayHead w g h k st wo) (hb : Blk wo ob 31 #[kv, .int .i64 n, bv]) (hk : k ≤ 50) :
    (Calls Try.prog 15 #[.pointer (some ⟨g, 0, none⟩), .int .i64 n] wo.drew fun e w2 => e = .returned (.int .i64 (st.trunc n).1) ∧ w2.cell? ⟨ob, 1, none⟩ = some (.int .i64 n) ∧
      Hid (DiskAt w2 w.heap.size g (st.trunc n).2 ∧ RefAt w2 w.heap.size h st ∧ Below w.heap.size w w2)) ∧
    ∀ w2, Hid (DiskAt w2 w.heap.size g (st.trunc n).2 ∧ RefAt w2 w.heap.size h st ∧ Below w.heap.size w w2) →
      Calls Try.prog 16 #[.pointer (some ⟨h, 0, none⟩), .int .i64 n] w2 fun e w3 => e = .returned (.int .i64 (st.trunc n).1) ∧ Hid (PlayHead w g h (k + 1) (st.trunc n).2 w3) := by
  obtain ⟨h1, h2, h3, h4, h5, h6⟩ := hp
  have hb0 : Below wo.heap.size wo wo.drew := (Below.refl _ _).drew
  constructor
  · refine (trunc_any n g w.heap.size st wo.drew (h1.below hb0) h3.size (by omega)).mono ?_
    rintro e w2 ⟨rfl, hd, kp⟩
    obtain ⟨m1, m2⟩ := play_mid (w1 := wo.drew) ⟨h1.below hb0, h2.below hb0, h3.drew, h4, h5, h6⟩ kp
    exact ⟨rfl, (kp.blk (w := wo.drew) hb (by simp)).cell 1, hd, m1, m2⟩
  · intro w2 H
    obtain ⟨m0, m1, m2⟩ := H.out
    refine (reftrunc_any n h w.heap.size st w2 m1 (by omega)).mono ?_
    rintro e w3 ⟨rfl, hr, kp⟩
    have := trunc_calls st n
    exact ⟨rfl, Lib.hid (play_end m0 m2 hr kp (by omega) (by rw [trunc_size]; exact h5) h6)⟩

theorem play_up {w w0 : World} {g h k : Nat} {st : St} {A : Option Addr} {fs : List (Int × Int)} (c : Nat) (hp : PlayHead w g h k st w0) (hr : Reads w w.heap.size 2 A fs.length (faultCells fs)) (hl : fs.length ≤ 4) (hk : ∀ f ∈ fs, -9223372036854775808 ≤ f.2 ∧ f.2 ≤ 9223372036854775807) :
    (Calls Try.prog 17 #[.pointer (some ⟨g, 0, none⟩), .slice A fs.length c] w0 fun e w2 => e = .returned (.tuple #[]) ∧ Hid (DiskAt w2 w.heap.size g (st.up fs) ∧ RefAt w2 w.heap.size h st ∧ Below w.heap.size w w2)) ∧
    ∀ w2, Hid (DiskAt w2 w.heap.size g (st.up fs) ∧ RefAt w2 w.heap.size h st ∧ Below w.heap.size w w2) →
      Calls Try.prog 18 #[.pointer (some ⟨h, 0, none⟩), .slice A fs.length c] w2 fun e w3 => e = .returned (.tuple #[]) ∧ Hid (PlayHead w g h (k + 1) (st.up fs) w3) := by
  have hp0 := hp
  obtain ⟨h1, h2, h3, h4, h5, h6⟩ := hp
  constructor
  · refine (up_any A fs c g w.heap.size st w0 h1 h3.size ((hr.below h3).more h3.size) (by omega) hk).mono ?_
    rintro e w2 ⟨rfl, hd, kp⟩
    obtain ⟨m1, m2⟩ := play_mid hp0 (kp.wide (ts' := [52, 5]) (by simp))
    exact ⟨rfl, Lib.hid ⟨hd, m1, m2⟩⟩
  · intro w2 H
    obtain ⟨m0, m1, m2⟩ := H.out
    refine (refup_any A fs c h w.heap.size st w2 m1 m2.size ((hr.below m2).more m2.size) (by omega) hk).mono ?_
    rintro e w3 ⟨rfl, hr, kp⟩
    exact ⟨rfl, Lib.hid (play_end m0 m2 hr kp (Nat.zero_le _) h5 h6)⟩
end Go.Proofs.Ytfmdloomjnmpgaa
