/-
  The disk as plain data: what each of its calls does, and what is known of it in memory.
-/
import Derived.Test.YtfmdloomjnmpgaaIdx
namespace Go.Proofs.Ytfmdloomjnmpgaa
open Go.RowKit

theorem only_alloc {a w : World} {row : Option Nat} (h : a.grownBy w row) (o : Obj) : a.grownBy (w.alloc o) row :=
  ⟨h.os, h.tape, h.output, Nat.le_trans h.size (by simp), fun i hi hne => (Below.heap_alloc w o i (Nat.lt_of_lt_of_le hi h.size)).trans (h.block i hi hne)⟩
theorem only_setCell {a w : World} {g : Nat} (h : a.grownBy w (some g)) {p : Addr} (hp : p.block = g ∨ a.heap.size ≤ p.block) (u : Value) : a.grownBy (w.setCell p u) (some g) :=
  ⟨h.os, h.tape, h.output, by simpa [World.setCell] using h.size, fun i hi hne => (Below.heap_setCell w p u i (by
    rintro rfl
    rcases hp with hp | hp
    · exact hne (by rw [hp])
    · omega)).trans (h.block i hi hne)⟩
theorem only_then {a w w' : World} {row : Option Nat} (h : a.grownBy w row) (hb : Below w.heap.size w w') : a.grownBy w' row :=
  ⟨hb.os.trans h.os, hb.tape.trans h.tape, hb.output.trans h.output, Nat.le_trans h.size hb.size, fun i hi hne => (hb.block i (Nat.lt_of_lt_of_le hi h.size)).trans (h.block i hi hne)⟩
theorem only_drewN {a w : World} {row : Option Nat} (h : a.grownBy w row) (n : Nat) : a.grownBy (w.drewN n) row := ⟨h.os, h.tape, h.output, h.size, h.block⟩
theorem only_drew {a w : World} {row : Option Nat} (h : a.grownBy w row) : a.grownBy w.drew row := ⟨h.os, h.tape, h.output, h.size, h.block⟩
theorem only_reads {w w' : World} {g size n : Nat} {A : Option Addr} {xs : List Value} (h : Reads w w.heap.size size A n xs) (hg : w.grownBy w' (some g)) (hne : 0 < n → ∀ ad, A = some ad → ad.block ≠ g) : Reads w' w'.heap.size size A n xs :=
  ⟨h.1, fun hn => by
    obtain ⟨ad, e, hb, hc⟩ := h.2 hn
    refine ⟨ad, e, Nat.lt_of_lt_of_le hb hg.size, fun j v hv => ?_⟩
    exact hg.cell (hc j v hv) (by rw [block_of_add]; intro h; injection h with h; exact hne hn ad e h)⟩

/-- The disk, program's and reference's alike. -/
structure St where
  b : List UInt8
  synced : Nat
  size : Nat
  faults : List (Int × Int)
  calls : Nat
  down : Bool

structure St.Ok (s : St) : Prop where
  synced : s.synced ≤ s.b.length
  size : s.b.length ≤ s.size
  most : s.size ≤ 1048576
  few : s.faults.length ≤ 1000
  calls : s.calls ≤ 1000000
  keep : ∀ f ∈ s.faults, -9223372036854775808 ≤ f.2 ∧ f.2 ≤ 9223372036854775807

def St.room (s : St) (bs : List UInt8) : List UInt8 := s.b ++ bs.take (min bs.length (s.size - s.b.length))
def St.kept (s : St) (keep : Int) (bs : List UInt8) : Nat := min (max keep 0).toNat ((s.room bs).length - s.synced)
def St.fell (s : St) (keep : Int) (bs : List UInt8) : St :=
  { s with b := (s.room bs).take (s.synced + s.kept keep bs), synced := s.synced + s.kept keep bs, calls := s.calls + 1, down := true }
/-- A call begins: 0, or 9: it is down, or goes down. -/
def St.call (s : St) (bs : List UInt8) : Int × St :=
  if s.down = true then (9, s) else
  match s.faults[hitAt s.faults s.calls]? with
  | none => (0, { s with calls := s.calls + 1 })
  | some f => (9, s.fell f.2 bs)

def byteV (l : List UInt8) : List Value := l.map fun c => .int .u8 c.toNat
theorem byteV_one (l : List UInt8) : ∀ u ∈ byteV l, u.oneCell' = true := by
  intro u hu
  obtain ⟨_, _, rfl⟩ := List.mem_map.1 hu
  rfl
theorem byteV_len (l : List UInt8) : (byteV l).length = l.length := by simp [byteV]
theorem byteV_append (l m : List UInt8) : byteV (l ++ m) = byteV l ++ byteV m := by simp [byteV]
theorem byteV_take (l : List UInt8) (n : Nat) : byteV (l.take n) = (byteV l).take n := by simp [byteV, List.map_take]

/-- What may have turned: blocks from base on, of the types ts alone. -/
structure Keeps (ts : List TypeId) (base : Nat) (w w' : World) : Prop where
  below : Below base w w'
  block : ∀ i, i < w.heap.size → (∀ cs t fr, w.heap[i]? = some (.cells cs t fr) → t ∉ ts) → w'.heap[i]? = w.heap[i]?

section
variable {ts : List TypeId} {base : Nat} {a w w' : World}
theorem Keeps.refl (ts : List TypeId) (base : Nat) (w : World) : Keeps ts base w w := ⟨Below.refl _ _, fun _ _ _ => rfl⟩
theorem Keeps.trans {c : World} (h : Keeps ts base a w) (k : Keeps ts base w c) : Keeps ts base a c :=
  ⟨h.below.trans k.below, fun i hi hn => by
    have e := h.block i hi hn
    rw [k.block i (Nat.lt_of_lt_of_le hi h.below.size) (by rw [e]; exact hn), e]⟩
theorem Keeps.wide {ts' : List TypeId} (h : Keeps ts base w w') (hs : ∀ t ∈ ts, t ∈ ts') : Keeps ts' base w w' :=
  ⟨h.below, fun i hi hn => h.block i hi fun cs t fr hc ht => hn cs t fr hc (hs t ht)⟩
theorem Keeps.drew (h : Keeps ts base a w) : Keeps ts base a w.drew := ⟨h.below.drew, h.block⟩
theorem Keeps.drewN (h : Keeps ts base a w) (n : Nat) : Keeps ts base a (w.drewN n) := ⟨⟨h.below.os, h.below.tape, h.below.output, h.below.size, h.below.block⟩, h.block⟩
theorem Keeps.of_below (h : Below w.heap.size w w') (hb : base ≤ w.heap.size) : Keeps ts base w w' := ⟨h.mono hb, fun i hi _ => h.block i hi⟩
theorem Keeps.then_ (h : Keeps ts base a w) (hb : base ≤ w.heap.size) (k : Below w.heap.size w w') : Keeps ts base a w' := h.trans (Keeps.of_below k hb)
theorem Keeps.alloc (h : Keeps ts base a w) (hb : base ≤ w.heap.size) (o : Obj) : Keeps ts base a (w.alloc o) := h.then_ hb ((Below.refl _ _).alloc (Nat.le_refl _) o)
theorem Keeps.grown {row : Option Nat} (h : Keeps ts base a w) (hb : base ≤ w.heap.size) (hg : w.grownBy w' row)
    (hr : ∀ k, row = some k → base ≤ k ∧ ∃ cs t fr, w.heap[k]? = some (.cells cs t fr) ∧ t ∈ ts) : Keeps ts base a w' := by
  refine ⟨h.below.grown hg hb (fun k hk => (hr k hk).1), fun i hi hn => ?_⟩
  have e := h.block i hi hn
  rw [hg.block i (Nat.lt_of_lt_of_le hi h.below.size) ?_, e]
  intro he
  obtain ⟨_, cs, t, fr, hc, ht⟩ := hr i he.symm
  exact hn cs t fr (by rw [← e]; exact hc) ht
theorem Keeps.setCell (h : Keeps ts base a w) {p : Addr} (hp : base ≤ p.block) (u : Value) (ht : ∃ cs t fr, w.heap[p.block]? = some (.cells cs t fr) ∧ t ∈ ts) : Keeps ts base a (w.setCell p u) := by
  refine ⟨h.below.setCell hp u, fun i hi hn => ?_⟩
  have e := h.block i hi hn
  rw [Below.heap_setCell _ _ _ _ ?_, e]
  rintro rfl
  obtain ⟨cs, t, fr, hc, ht⟩ := ht
  exact hn cs t fr (by rw [← e]; exact hc) ht
theorem Keeps.blk (h : Keeps ts base w w') {g : Nat} {t : TypeId} {cs : Array Value} (hb : Blk w g t cs) (ht : t ∉ ts) : Blk w' g t cs := by
  unfold Blk at hb ⊢
  rw [h.block g (Blk.lt hb) (fun cs' t' fr' hh => by rw [hb] at hh; injection hh with hh; injection hh with h1 h2 h3; exact h2 ▸ ht)]
  exact hb
theorem Keeps.own (h : Keeps ts base w w') {b2 : Nat} {e : TypeId} {size n : Nat} {v : Value} {xs : List Value} (ho : w.ownsRow b2 e size v n xs) (ht : e ∉ ts) : w'.ownsRow b2 e size v n xs := by
  refine ⟨ho.1, ?_⟩
  rcases ho.2 with h2 | ⟨g, cap, cur, hv, hg, hh, r⟩
  · exact .inl h2
  · exact .inr ⟨g, cap, cur, hv, hg, Keeps.blk (g := g) h hh ht, r⟩
end
theorem own_slice {w : World} {base n : Nat} {e : TypeId} {size : Nat} {v : Value} {xs : List Value} (h : w.ownsRow base e size v n xs) : ∃ A c, v = .slice A n c ∧ n ≤ c ∧ (∀ ad, A = some ad → ∃ g, ad = ⟨g, 0, none⟩) := by
  rcases h.2 with ⟨rfl, rfl⟩ | ⟨g, cap, cur, rfl, _, _, hc, _⟩
  · exact ⟨_, _, rfl, Nat.le_refl _, fun _ h => by cases h⟩
  · exact ⟨_, _, rfl, hc, fun ad h => by cases h; exact ⟨_, rfl⟩⟩
theorem own_block {w : World} {base n : Nat} {e : TypeId} {size : Nat} {v : Value} {xs : List Value} (h : w.ownsRow base e size v n xs) {k : Nat} (hk : v.ownBlock = some k) : base ≤ k ∧ ∃ cs fr, w.heap[k]? = some (.cells cs e fr) := by
  rcases h.2 with ⟨rfl, _⟩ | ⟨g, cap, cur, rfl, hb, hh, _⟩
  · simp [Value.ownBlock] at hk
  · simp [Value.ownBlock] at hk
    subst hk
    exact ⟨hb, _, _, hh⟩

/-- The program's disk in block g; all of it from base on. -/
structure DiskIn (w : World) (base g : Nat) (s : St) (vb vf : Value) : Prop where
  blk : Blk w g 52 #[vb, .int .i64 s.synced, .int .i64 s.size, vf, .int .i64 s.calls, .bool s.down]
  bytes : w.ownsRow base 5 1 vb s.b.length (byteV s.b)
  faults : w.ownsRow base 44 2 vf s.faults.length (faultCells s.faults)
  base : base ≤ g
  ok : s.Ok
def DiskAt (w : World) (base g : Nat) (s : St) : Prop := ∃ vb vf, DiskIn w base g s vb vf

theorem DiskAt.keeps {ts : List TypeId} {b2 : Nat} {w w' : World} {base g : Nat} {s : St} (h : DiskAt w base g s) (k : Keeps ts b2 w w') (h5 : 5 ∉ ts) (h44 : 44 ∉ ts) (h52 : 52 ∉ ts) : DiskAt w' base g s := by
  obtain ⟨vb, vf, h1, h2, h3, h4, h5'⟩ := h
  exact ⟨vb, vf, k.blk h1 h52, k.own h2 h5, k.own h3 h44, h4, h5'⟩
theorem DiskAt.below {w w' : World} {base g : Nat} {s : St} (h : DiskAt w base g s) (k : Below w.heap.size w w') : DiskAt w' base g s :=
  h.keeps (ts := []) (b2 := 0) (Keeps.of_below k (Nat.zero_le _)) (by simp) (by simp) (by simp)

theorem Reads.far {w : World} {B size n : Nat} {A : Option Addr} {xs : List Value} (h : Reads w B size A n xs) {p : Addr} (hne : 0 < n → ∀ ad, A = some ad → ad.block ≠ p.block) (u : Value) : Reads (w.setCell p u) B size A n xs :=
  ⟨h.1, fun hn => by
    obtain ⟨ad, e, hb, hc⟩ := h.2 hn
    refine ⟨ad, e, hb, fun j v hv => ?_⟩
    have hq : (ad.add j).block ≠ p.block := by rw [block_of_add]; exact hne hn ad e
    rw [World.cell?_setCell_other w p _ u (fun e => hq (by rw [e]))]
    exact hc j v hv⟩
theorem Reads.apart {w : World} {B size n g : Nat} {A : Option Addr} {xs : List Value} (h : Reads w B size A n xs) (hg : B ≤ g) : 0 < n → ∀ ad, A = some ad → ad.block ≠ g := by
  intro hn ad ha
  obtain ⟨ad', e, hb, _⟩ := h.2 hn
  rw [ha] at e
  injection e with e
  subst e
  omega
theorem Reads.take {w : World} {B size n : Nat} {A : Option Addr} {xs : List Value} (h : Reads w B size A n xs) {m : Nat} (hm : m ≤ n) : Reads w B size A m (xs.take (m * size)) := by
  have hms : m * size ≤ n * size := Nat.mul_le_mul_right _ hm
  refine ⟨by rw [List.length_take, h.1]; omega, fun hn => ?_⟩
  obtain ⟨ad, e, hb, hc⟩ := h.2 (by omega)
  refine ⟨ad, e, hb, fun j u hu => hc j u ?_⟩
  rw [List.getElem?_take] at hu
  split at hu
  · exact hu
  · cases hu
theorem size_setCell (w : World) (p : Addr) (u : Value) : (w.setCell p u).heap.size = w.heap.size := by simp [World.setCell]
theorem cell_new1 {w : World} {v : Value} {t : TypeId} {n : Nat} (hn : n = w.heap.size) : (w.alloc (.cells #[v] t)).cell? ⟨n, 0, none⟩ = some v := by
  subst hn
  exact (Blk.new w t #[v]).cell 0
/-- A store into the disk's own block. -/
theorem keeps_set {ts : List TypeId} {w : World} {base g : Nat} {t : TypeId} {cs : Array Value} (hb : Blk w g t cs) (hg : base ≤ g) (ht : t ∈ ts) (i : Nat) (u : Value) : Keeps ts base w (w.setCell ⟨g, i, none⟩ u) :=
  (Keeps.refl ts base w).setCell (p := ⟨g, i, none⟩) hg u ⟨cs, t, (0, 0), hb, ht⟩

/-- Other fields of the disk stand as they were: five stores, one for each field that turns. -/
theorem DiskIn.setCalls {w : World} {base g : Nat} {s : St} {vb vf : Value} (h : DiskIn w base g s vb vf) (n : Nat) (hn : n ≤ 1000000) :
    DiskIn (w.setCell ⟨g, 4, none⟩ (.int .i64 n)) base g { s with calls := n } vb vf := by
  have k := keeps_set (ts := [52]) h.blk h.base (by simp) 4 (.int .i64 n)
  refine ⟨?_, k.own h.bytes (by simp), k.own h.faults (by simp), h.base, ⟨h.ok.synced, h.ok.size, h.ok.most, h.ok.few, hn, h.ok.keep⟩⟩
  exact h.blk.set_ 4 _
theorem DiskIn.setDown {w : World} {base g : Nat} {s : St} {vb vf : Value} (h : DiskIn w base g s vb vf) (d : Bool) :
    DiskIn (w.setCell ⟨g, 5, none⟩ (.bool d)) base g { s with down := d } vb vf := by
  have k := keeps_set (ts := [52]) h.blk h.base (by simp) 5 (.bool d)
  refine ⟨?_, k.own h.bytes (by simp), k.own h.faults (by simp), h.base, ⟨h.ok.synced, h.ok.size, h.ok.most, h.ok.few, h.ok.calls, h.ok.keep⟩⟩
  exact h.blk.set_ 5 _
theorem DiskIn.setSynced {w : World} {base g : Nat} {s : St} {vb vf : Value} (h : DiskIn w base g s vb vf) (n : Nat) (hn : n ≤ s.b.length) :
    DiskIn (w.setCell ⟨g, 1, none⟩ (.int .i64 n)) base g { s with synced := n } vb vf := by
  have k := keeps_set (ts := [52]) h.blk h.base (by simp) 1 (.int .i64 n)
  refine ⟨?_, k.own h.bytes (by simp), k.own h.faults (by simp), h.base, ⟨hn, h.ok.size, h.ok.most, h.ok.few, h.ok.calls, h.ok.keep⟩⟩
  exact h.blk.set_ 1 _
/-- New bytes: a row that is owned in this world. -/
theorem DiskIn.setBytes {w : World} {base g : Nat} {s : St} {vb vf : Value} (h : DiskIn w base g s vb vf) {v : Value} {l : List UInt8} (hv : w.ownsRow base 5 1 v l.length (byteV l)) (h1 : s.synced ≤ l.length) (h2 : l.length ≤ s.size) :
    DiskIn (w.setCell ⟨g, 0, none⟩ v) base g { s with b := l } v vf := by
  have k := keeps_set (ts := [52]) h.blk h.base (by simp) 0 v
  refine ⟨?_, k.own hv (by simp), k.own h.faults (by simp), h.base, ⟨h1, h2, h.ok.most, h.ok.few, h.ok.calls, h.ok.keep⟩⟩
  exact h.blk.set_ 0 _
theorem own_drewN {w : World} {base n : Nat} {e : TypeId} {size : Nat} {v : Value} {xs : List Value} (h : w.ownsRow base e size v n xs) (k : Nat) : (w.drewN k).ownsRow base e size v n xs := h
theorem own_base {w : World} {b1 b2 n : Nat} {e : TypeId} {size : Nat} {v : Value} {xs : List Value} (h : w.ownsRow b1 e size v n xs) (hb : b2 ≤ b1) : w.ownsRow b2 e size v n xs := by
  refine ⟨h.1, ?_⟩
  rcases h.2 with h2 | ⟨g, cap, cur, hv, hg, r⟩
  · exact .inl h2
  · exact .inr ⟨g, cap, cur, hv, Nat.le_trans hb hg, r⟩
theorem own_ne {w : World} {b1 b2 n m : Nat} {e1 e2 : TypeId} {s1 s2 : Nat} {v1 v2 : Value} {xs ys : List Value} (h1 : w.ownsRow b1 e1 s1 v1 n xs) (h2 : w.ownsRow b2 e2 s2 v2 m ys) (hne : e1 ≠ e2) : v1.ownBlock = none ∨ v1.ownBlock ≠ v2.ownBlock := by
  cases hv : v1.ownBlock with
  | none => exact .inl rfl
  | some k =>
    refine .inr (fun e => ?_)
    obtain ⟨-, cs, fr, hc⟩ := own_block h1 hv
    obtain ⟨-, cs', fr', hc'⟩ := own_block h2 e.symm
    rw [hc] at hc'
    injection hc' with hc'
    injection hc' with _ ht
    exact hne ht
/-- Behind an append to the bytes' row and the store of its value. -/
theorem DiskIn.appended {w w' : World} {base g : Nat} {s : St} {vb vf : Value} (h : DiskIn w base g s vb vf) (hg : w.grownBy w' vb.ownBlock) {v : Value} {l : List UInt8} (hv : w'.ownsRow base 5 1 v l.length (byteV l)) (h1 : s.synced ≤ l.length) (h2 : l.length ≤ s.size) :
    DiskIn (w'.setCell ⟨g, 0, none⟩ v) base g { s with b := l } v vf := by
  have hb : Blk w' g 52 _ := h.blk.grown hg (fun e => own_blk_ne h.bytes h.blk (by decide) e.symm)
  have hf := h.faults.kept hg (own_ne h.faults h.bytes (by decide))
  have k := keeps_set (ts := [52]) hb h.base (by simp) 0 v
  refine ⟨?_, k.own hv (by simp), k.own hf (by simp), h.base, ⟨h1, h2, h.ok.most, h.ok.few, h.ok.calls, h.ok.keep⟩⟩
  exact hb.set_ 0 _
theorem DiskIn.keepsAppended {w w' : World} {base g : Nat} {s : St} {vb vf : Value} (h : DiskIn w base g s vb vf) (hbase : base ≤ w.heap.size) (hg : w.grownBy w' vb.ownBlock) (v : Value) : Keeps [52, 5] base w (w'.setCell ⟨g, 0, none⟩ v) := by
  have hb : Blk w' g 52 _ := h.blk.grown hg (fun e => own_blk_ne h.bytes h.blk (by decide) e.symm)
  have k : Keeps [52, 5] base w w' := (Keeps.refl _ _ _).grown hbase hg (fun k hk => by
    obtain ⟨h1, cs, fr, h2⟩ := own_block h.bytes hk
    exact ⟨h1, cs, 5, fr, h2, by simp⟩)
  exact k.trans (keeps_set hb h.base (by simp) 0 v)
/-- New faults. -/
theorem DiskIn.setFaults {w : World} {base g : Nat} {s : St} {vb vf : Value} (h : DiskIn w base g s vb vf) {v : Value} {l : List (Int × Int)} (hv : w.ownsRow base 44 2 v l.length (faultCells l)) (h1 : l.length ≤ 1000)
    (h2 : ∀ f ∈ l, -9223372036854775808 ≤ f.2 ∧ f.2 ≤ 9223372036854775807) : DiskIn (w.setCell ⟨g, 3, none⟩ v) base g { s with faults := l } vb v := by
  have k := keeps_set (ts := [52]) h.blk h.base (by simp) 3 v
  refine ⟨?_, k.own h.bytes (by simp), k.own hv (by simp), h.base, ⟨h.ok.synced, h.ok.size, h.ok.most, h1, h.ok.calls, h2⟩⟩
  exact h.blk.set_ 3 _
theorem DiskIn.keeps {ts : List TypeId} {b2 : Nat} {w w' : World} {base g : Nat} {s : St} {vb vf : Value} (h : DiskIn w base g s vb vf) (k : Keeps ts b2 w w') (h5 : 5 ∉ ts) (h44 : 44 ∉ ts) (h52 : 52 ∉ ts) : DiskIn w' base g s vb vf :=
  ⟨k.blk h.blk h52, k.own h.bytes h5, k.own h.faults h44, h.base, h.ok⟩
theorem DiskIn.below {w w' : World} {base g : Nat} {s : St} {vb vf : Value} (h : DiskIn w base g s vb vf) (k : Below w.heap.size w w') : DiskIn w' base g s vb vf :=
  h.keeps (ts := []) (b2 := 0) (Keeps.of_below k (Nat.zero_le _)) (by simp) (by simp) (by simp)
theorem DiskIn.drew {w : World} {base g : Nat} {s : St} {vb vf : Value} (h : DiskIn w base g s vb vf) : DiskIn w.drew base g s vb vf := ⟨h.blk, h.bytes, h.faults, h.base, h.ok⟩
theorem DiskIn.drewN {w : World} {base g : Nat} {s : St} {vb vf : Value} (h : DiskIn w base g s vb vf) (n : Nat) : DiskIn (w.drewN n) base g s vb vf := ⟨h.blk, h.bytes, h.faults, h.base, h.ok⟩
/-- The cells of the disk's block, as the walk asks them. -/
theorem DiskIn.cells {w : World} {base g : Nat} {s : St} {vb vf : Value} (h : DiskIn w base g s vb vf) :
    w.cell? ⟨g, 0, none⟩ = some vb ∧ w.cell? ⟨g, 1, none⟩ = some (.int .i64 s.synced) ∧ w.cell? ⟨g, 2, none⟩ = some (.int .i64 s.size) ∧ w.cell? ⟨g, 3, none⟩ = some vf ∧ w.cell? ⟨g, 4, none⟩ = some (.int .i64 s.calls) ∧ w.cell? ⟨g, 5, none⟩ = some (.bool s.down) :=
  ⟨h.blk.cell 0, h.blk.cell 1, h.blk.cell 2, h.blk.cell 3, h.blk.cell 4, h.blk.cell 5⟩
theorem DiskIn.lt {w : World} {base g : Nat} {s : St} {vb vf : Value} (h : DiskIn w base g s vb vf) : g < w.heap.size := h.blk.lt
end Go.Proofs.Ytfmdloomjnmpgaa
