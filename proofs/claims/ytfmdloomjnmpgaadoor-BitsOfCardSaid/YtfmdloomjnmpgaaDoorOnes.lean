/-
  How many bits of a number are set, and the way by which math/bits reckons it: plain arithmetic, no program.
-/
namespace Go.Proofs.YtfmdloomjnmpgaaDoor

/-- How many of the first n bits are set. -/
def popN : Nat → Nat → Nat
  | 0, _ => 0
  | n + 1, x => x % 2 + popN n (x / 2)
theorem popN_le (n : Nat) : ∀ x, popN n x ≤ n := by
  induction n with
  | zero => intro x; simp [popN]
  | succ n ih => intro x; have := ih (x / 2); simp only [popN]; omega
theorem popN_add (s t : Nat) : ∀ x, popN (s + t) x = popN s (x % 2 ^ s) + popN t (x / 2 ^ s) := by
  induction s with
  | zero => intro x; simp [popN]
  | succ s ih =>
    intro x
    rw [show s + 1 + t = (s + t) + 1 from by omega]
    simp only [popN]
    rw [ih (x / 2)]
    have e1 : x % 2 ^ (s + 1) % 2 = x % 2 := by
      rw [Nat.pow_succ, Nat.mul_comm, Nat.mod_mul_right_mod]
    have e2 : x % 2 ^ (s + 1) / 2 = x / 2 % 2 ^ s := by
      rw [Nat.pow_succ, Nat.mul_comm, Nat.mod_mul_right_div_self]
    have e3 : x / 2 / 2 ^ s = x / 2 ^ (s + 1) := by rw [Nat.div_div_eq_div_mul, Nat.pow_succ, Nat.mul_comm]
    rw [e1, e2, e3]
    omega
/-- The number whose n digits, of s bits each, are how many bits each such part of x has. -/
def digs (s : Nat) : Nat → Nat → Nat
  | 0, _ => 0
  | n + 1, x => popN s (x % 2 ^ s) + 2 ^ s * digs s n (x / 2 ^ s)
theorem and_split (b x m : Nat) : x &&& m = 2 ^ b * (x / 2 ^ b &&& m / 2 ^ b) + (x % 2 ^ b &&& m % 2 ^ b) := by
  have h := Nat.div_add_mod (x &&& m) (2 ^ b)
  rw [Nat.and_div_two_pow, Nat.and_mod_two_pow] at h
  exact h.symm
theorem and_1 (x : Nat) : x &&& 1 = x % 2 := Nat.and_two_pow_sub_one_eq_mod x 1
theorem and_3 (x : Nat) : x &&& 3 = x % 4 := Nat.and_two_pow_sub_one_eq_mod x 2
theorem and_15 (x : Nat) : x &&& 15 = x % 16 := Nat.and_two_pow_sub_one_eq_mod x 4
theorem digs_one (n : Nat) : ∀ x, x < 2 ^ n → digs 1 n x = x := by
  induction n with
  | zero => intro x h; simp at h; simp [digs, h]
  | succ n ih =>
    intro x h
    have h2 : x / 2 < 2 ^ n := by rw [Nat.pow_succ] at h; omega
    simp only [digs, popN, Nat.pow_one]
    rw [ih _ h2]
    omega
theorem digs_two (s n x : Nat) : digs s (2 * (n + 1)) x = popN s (x % 2 ^ s) + 2 ^ s * (popN s (x / 2 ^ s % 2 ^ s) + 2 ^ s * digs s (2 * n) (x / 2 ^ s / 2 ^ s)) := by
  rw [show 2 * (n + 1) = 2 * n + 1 + 1 from by omega]
  simp only [digs]
/-- Masks: n times the low half of a digit of 2, 4, 8 bits. -/
def mask (s : Nat) : Nat → Nat
  | 0 => 0
  | n + 1 => (2 ^ s - 1) + 2 ^ (2 * s) * mask s n
theorem digs_step1 (n : Nat) : ∀ x, (digs 1 (2 * n) x / 2 &&& mask 1 n) + (digs 1 (2 * n) x &&& mask 1 n) = digs 2 n x := by
  induction n with
  | zero => intro x; simp [digs, mask]
  | succ n ih =>
    intro x
    have hi := ih (x / 2 / 2)
    rw [digs_two]
    simp only [mask, digs, Nat.pow_one, show 2 ^ (2 * 1) = 4 from rfl, show 2 - 1 = 1 from rfl]
    have hp := popN_add 1 1 (x % 4)
    have hx1 : x % 4 % 2 = x % 2 := by omega
    have hx2 : x % 4 / 2 = x / 2 % 2 := by omega
    simp only [Nat.pow_one, hx1, hx2, show 1 + 1 = 2 from rfl] at hp
    have h0 := popN_le 1 (x % 2)
    have h1 := popN_le 1 (x / 2 % 2)
    have e4 : x / 4 = x / 2 / 2 := by omega
    rw [e4, hp]
    generalize popN 1 (x % 2) = p0 at *
    generalize popN 1 (x / 2 % 2) = p1 at *
    rw [← hi]
    generalize digs 1 (2 * n) (x / 2 / 2) = y at *
    rw [and_split 2 ((p0 + 2 * (p1 + 2 * y)) / 2), and_split 2 (p0 + 2 * (p1 + 2 * y))]
    simp only [show 2 ^ 2 = 4 from rfl]
    have m1 : (1 + 4 * mask 1 n) / 4 = mask 1 n := by omega
    have m2 : (1 + 4 * mask 1 n) % 4 = 1 := by omega
    rw [m1, m2, and_1, and_1]
    have a1 : (p0 + 2 * (p1 + 2 * y)) / 2 / 4 = y / 2 := by omega
    have a2 : (p0 + 2 * (p1 + 2 * y)) / 4 = y := by omega
    have a3 : (p0 + 2 * (p1 + 2 * y)) / 2 % 4 % 2 = p1 := by omega
    have a4 : (p0 + 2 * (p1 + 2 * y)) % 4 % 2 = p0 := by omega
    rw [a1, a2, a3, a4]
    omega
theorem digs_step2 (n : Nat) : ∀ x, (digs 2 (2 * n) x / 4 &&& mask 2 n) + (digs 2 (2 * n) x &&& mask 2 n) = digs 4 n x := by
  induction n with
  | zero => intro x; simp [digs, mask]
  | succ n ih =>
    intro x
    have hi := ih (x / 4 / 4)
    rw [digs_two]
    simp only [mask, digs, show 2 ^ (2 * 2) = 16 from rfl, show 2 ^ 2 = 4 from rfl, show 4 - 1 = 3 from rfl]
    have hp := popN_add 2 2 (x % 16)
    have hx1 : x % 16 % 4 = x % 4 := by omega
    have hx2 : x % 16 / 4 = x / 4 % 4 := by omega
    simp only [show 2 ^ 2 = 4 from rfl, hx1, hx2, show 2 + 2 = 4 from rfl] at hp
    have h0 := popN_le 2 (x % 4)
    have h1 := popN_le 2 (x / 4 % 4)
    have e4 : x / 16 = x / 4 / 4 := by omega
    rw [e4, hp]
    generalize popN 2 (x % 4) = p0 at *
    generalize popN 2 (x / 4 % 4) = p1 at *
    rw [← hi]
    generalize digs 2 (2 * n) (x / 4 / 4) = y at *
    rw [and_split 4 ((p0 + 4 * (p1 + 4 * y)) / 4), and_split 4 (p0 + 4 * (p1 + 4 * y))]
    simp only [show 2 ^ 4 = 16 from rfl]
    have m1 : (3 + 16 * mask 2 n) / 16 = mask 2 n := by omega
    have m2 : (3 + 16 * mask 2 n) % 16 = 3 := by omega
    rw [m1, m2, and_3, and_3]
    have a1 : (p0 + 4 * (p1 + 4 * y)) / 4 / 16 = y / 4 := by omega
    have a2 : (p0 + 4 * (p1 + 4 * y)) / 16 = y := by omega
    have a3 : (p0 + 4 * (p1 + 4 * y)) / 4 % 16 % 4 = p1 := by omega
    have a4 : (p0 + 4 * (p1 + 4 * y)) % 16 % 4 = p0 := by omega
    rw [a1, a2, a3, a4]
    omega
theorem digs_step4 (n : Nat) : ∀ x, (digs 4 (2 * n) x / 16 + digs 4 (2 * n) x &&& mask 4 n) = digs 8 n x := by
  induction n with
  | zero => intro x; simp [digs, mask]
  | succ n ih =>
    intro x
    have hi := ih (x / 16 / 16)
    have hd : digs 4 (2 * n) (x / 16 / 16) % 16 ≤ 4 := by
      cases n with
      | zero => simp [digs]
      | succ n =>
        rw [digs_two]
        have := popN_le 4 (x / 16 / 16 % 2 ^ 4)
        omega
    rw [digs_two]
    simp only [mask, digs, show 2 ^ (2 * 4) = 256 from rfl, show 2 ^ 4 = 16 from rfl, show 16 - 1 = 15 from rfl]
    have hp := popN_add 4 4 (x % 256)
    have hx1 : x % 256 % 16 = x % 16 := by omega
    have hx2 : x % 256 / 16 = x / 16 % 16 := by omega
    simp only [show 2 ^ 4 = 16 from rfl, hx1, hx2, show 4 + 4 = 8 from rfl] at hp
    have h0 := popN_le 4 (x % 16)
    have h1 := popN_le 4 (x / 16 % 16)
    have e4 : x / 256 = x / 16 / 16 := by omega
    rw [e4, hp]
    generalize popN 4 (x % 16) = p0 at *
    generalize popN 4 (x / 16 % 16) = p1 at *
    rw [← hi]
    generalize digs 4 (2 * n) (x / 16 / 16) = y at *
    rw [and_split 8 ((p0 + 16 * (p1 + 16 * y)) / 16 + (p0 + 16 * (p1 + 16 * y)))]
    simp only [show 2 ^ 8 = 256 from rfl]
    have m1 : (15 + 256 * mask 4 n) / 256 = mask 4 n := by omega
    have m2 : (15 + 256 * mask 4 n) % 256 = 15 := by omega
    rw [m1, m2, and_15]
    have a1 : ((p0 + 16 * (p1 + 16 * y)) / 16 + (p0 + 16 * (p1 + 16 * y))) / 256 = y / 16 + y := by omega
    have a3 : ((p0 + 16 * (p1 + 16 * y)) / 16 + (p0 + 16 * (p1 + 16 * y))) % 256 % 16 = p0 + p1 := by omega
    rw [a1, a3]
    omega

theorem mask1 : mask 1 32 = 6148914691236517205 := by decide +kernel
theorem mask2 : mask 2 16 = 3689348814741910323 := by decide +kernel
theorem mask4 : mask 4 8 = 1085102592571150095 := by decide +kernel

theorem bytes1 (p0 p1 p2 p3 p4 p5 p6 p7 y y1 : Nat) (h0 : p0 ≤ 8)
    (hy : y = p0 + 256 * (p1 + 256 * (p2 + 256 * (p3 + 256 * (p4 + 256 * (p5 + 256 * (p6 + 256 * p7)))))))
    (e1 : y1 = y + y / 256) : y1 = (p0 + p1) + 256 * ((p1 + p2) + 256 * ((p2 + p3) + 256 * ((p3 + p4) + 256 * ((p4 + p5) + 256 * ((p5 + p6) + 256 * ((p6 + p7) + 256 * p7)))))) := by
  have q : y / 256 = p1 + 256 * (p2 + 256 * (p3 + 256 * (p4 + 256 * (p5 + 256 * (p6 + 256 * p7))))) := by omega
  rw [e1, q, hy]
  omega
theorem bytes2 (q0 q1 q2 q3 q4 q5 q6 q7 y y1 : Nat) (h0 : q0 ≤ 16) (h1 : q1 ≤ 16)
    (hy : y = q0 + 256 * (q1 + 256 * (q2 + 256 * (q3 + 256 * (q4 + 256 * (q5 + 256 * (q6 + 256 * q7)))))))
    (e1 : y1 = y + y / 65536) : y1 = (q0 + q2) + 256 * ((q1 + q3) + 256 * ((q2 + q4) + 256 * ((q3 + q5) + 256 * ((q4 + q6) + 256 * ((q5 + q7) + 256 * (q6 + 256 * q7)))))) := by
  have q : y / 65536 = q2 + 256 * (q3 + 256 * (q4 + 256 * (q5 + 256 * (q6 + 256 * q7)))) := by omega
  rw [e1, q, hy]
  omega
theorem bytes3 (q0 q1 q2 q3 r y y1 : Nat) (h0 : q0 ≤ 64) (h1 : q1 ≤ 64) (h2 : q2 ≤ 64) (h3 : q3 ≤ 64) (h4 : r ≤ 1000000000)
    (hy : y = q0 + 256 * (q1 + 256 * (q2 + 256 * (q3 + 256 * r))))
    (e1 : y1 = y + y / 4294967296) : y1 < 18446744073709551616 ∧ y1 % 128 = (q0 + r) % 128 := by
  have q : y / 4294967296 = r := by omega
  rw [e1, q, hy]
  omega
/-- The last steps: eight digits below 9 are added up. -/
theorem bytes_sum (p0 p1 p2 p3 p4 p5 p6 p7 : Nat) (h0 : p0 ≤ 8) (h1 : p1 ≤ 8) (h2 : p2 ≤ 8) (h3 : p3 ≤ 8) (h4 : p4 ≤ 8) (h5 : p5 ≤ 8) (h6 : p6 ≤ 8) (h7 : p7 ≤ 8) (y y1 y2 y3 : Nat)
    (hy : y = p0 + 256 * (p1 + 256 * (p2 + 256 * (p3 + 256 * (p4 + 256 * (p5 + 256 * (p6 + 256 * p7)))))))
    (e1 : y1 = y + y / 256) (e2 : y2 = y1 + y1 / 65536) (e3 : y3 = y2 + y2 / 4294967296) :
    y3 < 18446744073709551616 ∧ y3 % 128 = p0 + p1 + p2 + p3 + p4 + p5 + p6 + p7 := by
  have f1 := bytes1 p0 p1 p2 p3 p4 p5 p6 p7 y y1 h0 hy e1
  have f2 := bytes2 (p0 + p1) (p1 + p2) (p2 + p3) (p3 + p4) (p4 + p5) (p5 + p6) (p6 + p7) p7 y1 y2 (by omega) (by omega) f1 e2
  clear hy e1 e2 f1
  have g0 : p0 + p1 + (p2 + p3) ≤ 64 := by omega
  have g1 : p1 + p2 + (p3 + p4) ≤ 64 := by omega
  have g2 : p2 + p3 + (p4 + p5) ≤ 64 := by omega
  have g3 : p3 + p4 + (p5 + p6) ≤ 64 := by omega
  have g4 : p4 + p5 + (p6 + p7) + 256 * (p5 + p6 + p7 + 256 * (p6 + p7 + 256 * p7)) ≤ 1000000000 := by omega
  obtain ⟨a, b⟩ := bytes3 _ _ _ _ _ y2 y3 g0 g1 g2 g3 g4 f2 e3
  refine ⟨a, ?_⟩
  rw [b]
  clear a b f2 e3 g0 g1 g2 g3 g4
  omega

/-- What math/bits.OnesCount64 reckons. -/
theorem swar (x : Nat) (hx : x < 18446744073709551616) (a b c d e f : Nat)
    (ha : a = (x / 2 &&& 6148914691236517205) + (x &&& 6148914691236517205))
    (hb : b = (a / 4 &&& 3689348814741910323) + (a &&& 3689348814741910323))
    (hc : c = (b / 16 + b) &&& 1085102592571150095)
    (hd : d = c + c / 256) (he : e = d + d / 65536) (hf : f = e + e / 4294967296) :
    a < 18446744073709551616 ∧ b < 18446744073709551616 ∧ b / 16 + b < 18446744073709551616 ∧ c < 18446744073709551616 ∧ f < 18446744073709551616 ∧ f % 128 = popN 64 x := by
  have s1 : a = digs 2 32 x := by rw [ha, ← digs_step1 32 x, mask1, digs_one 64 x hx]
  have s2 : b = digs 4 16 x := by rw [hb, s1, ← digs_step2 16 x, mask2]
  have s3 : c = digs 8 8 x := by rw [hc, s2, ← digs_step4 8 x, mask4]
  have m0 : x &&& 6148914691236517205 ≤ 6148914691236517205 := Nat.and_le_right
  have m1 : x / 2 &&& 6148914691236517205 ≤ 6148914691236517205 := Nat.and_le_right
  have m2 : a &&& 3689348814741910323 ≤ 3689348814741910323 := Nat.and_le_right
  have m3 : a / 4 &&& 3689348814741910323 ≤ 3689348814741910323 := Nat.and_le_right
  have m4 : c ≤ 1085102592571150095 := by rw [hc]; exact Nat.and_le_right
  refine ⟨by omega, by omega, by omega, by omega, ?_⟩
  have t : popN 64 x = _ := popN_add 8 56 x
  have t2 : popN 56 _ = _ := popN_add 8 48 (x / 2 ^ 8)
  have t3 : popN 48 _ = _ := popN_add 8 40 (x / 2 ^ 8 / 2 ^ 8)
  have t4 : popN 40 _ = _ := popN_add 8 32 (x / 2 ^ 8 / 2 ^ 8 / 2 ^ 8)
  have t5 : popN 32 _ = _ := popN_add 8 24 (x / 2 ^ 8 / 2 ^ 8 / 2 ^ 8 / 2 ^ 8)
  have t6 : popN 24 _ = _ := popN_add 8 16 (x / 2 ^ 8 / 2 ^ 8 / 2 ^ 8 / 2 ^ 8 / 2 ^ 8)
  have t7 : popN 16 _ = _ := popN_add 8 8 (x / 2 ^ 8 / 2 ^ 8 / 2 ^ 8 / 2 ^ 8 / 2 ^ 8 / 2 ^ 8)
  have t8 : popN 8 _ = _ := popN_add 8 0 (x / 2 ^ 8 / 2 ^ 8 / 2 ^ 8 / 2 ^ 8 / 2 ^ 8 / 2 ^ 8 / 2 ^ 8)
  simp only [popN.eq_1, Nat.add_zero] at t8
  have hs := bytes_sum _ _ _ _ _ _ _ _ (popN_le 8 (x % 2 ^ 8)) (popN_le 8 (x / 2 ^ 8 % 2 ^ 8)) (popN_le 8 (x / 2 ^ 8 / 2 ^ 8 % 2 ^ 8)) (popN_le 8 (x / 2 ^ 8 / 2 ^ 8 / 2 ^ 8 % 2 ^ 8)) (popN_le 8 (x / 2 ^ 8 / 2 ^ 8 / 2 ^ 8 / 2 ^ 8 % 2 ^ 8)) (popN_le 8 (x / 2 ^ 8 / 2 ^ 8 / 2 ^ 8 / 2 ^ 8 / 2 ^ 8 % 2 ^ 8)) (popN_le 8 (x / 2 ^ 8 / 2 ^ 8 / 2 ^ 8 / 2 ^ 8 / 2 ^ 8 / 2 ^ 8 % 2 ^ 8)) (popN_le 8 (x / 2 ^ 8 / 2 ^ 8 / 2 ^ 8 / 2 ^ 8 / 2 ^ 8 / 2 ^ 8 / 2 ^ 8 % 2 ^ 8)) c d e f (by rw [s3]; simp only [digs, show (2 : Nat) ^ 8 = 256 from rfl, Nat.mul_zero, Nat.add_zero]) hd he hf
  refine ⟨hs.1, ?_⟩
  rw [hs.2]
  omega
end Go.Proofs.YtfmdloomjnmpgaaDoor
