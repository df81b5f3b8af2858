/-
  BitsOf: a set has just the numbers that it is made of, however often and in whatever order.
-/
import Derived.Test.YtfmdloomjnmpgaaDoorLists
namespace Go.Proofs.YtfmdloomjnmpgaaDoor
open Go.RowKit
set_option linter.unusedVariables false

/-- 'uint(x) % uint(k)'. -/
def umodN (k : Nat) (x : Int) : Nat := (x % 18446744073709551616 % (k : Int)).toNat
theorem umodN_lt (k : Nat) (hk : 0 < k) (x : Int) : umodN k x < k := by
  have h1 : 0 ≤ x % 18446744073709551616 % (k : Int) := Int.emod_nonneg _ (by omega)
  have h2 : x % 18446744073709551616 % (k : Int) < k := Int.emod_lt_of_pos _ (by omega)
  unfold umodN
  omega
theorem umodN_is (k : Nat) (hk : 0 < k) (hk2 : k ≤ 1000000) (x : Int) : wrap64 ((IntKind.u64.wrap x).tmod (k : Int)) = (umodN k x : Int) := by
  have h0 : 0 ≤ x % 18446744073709551616 := Int.emod_nonneg _ (by decide)
  have h1 : 0 ≤ x % 18446744073709551616 % (k : Int) := Int.emod_nonneg _ (by omega)
  have h3 : x % 18446744073709551616 % (k : Int) < k := Int.emod_lt_of_pos _ (by omega)
  rw [IntKind.wrap_u64, Int.tmod_eq_emod_of_nonneg h0]
  unfold umodN
  generalize x % 18446744073709551616 % (k : Int) = r at *
  rw [show wrap64 r = r from IntWalk.wrap64_in _ ⟨by omega, by omega⟩]
  omega
def modsOf (k : Nat) (l : List Int) : List Int := l.map fun x => (umodN k x : Int)
theorem modsOf_len (k : Nat) (l : List Int) : (modsOf k l).length = l.length := by simp [modsOf]
theorem modsOf_more (k : Nat) (l : List Int) (j : Nat) {x : Int} (h : l[j]? = some x) : modsOf k (l.take (j + 1)) = modsOf k (l.take j) ++ [(umodN k x : Int)] := by
  rw [List.take_add_one, h]
  simp [modsOf]

theorem mem_take_more {M : List Int} {q : Nat} {x y : Int} (h : M[q]? = some x) : decide (y ∈ M.take (q + 1)) = (decide (y ∈ M.take q) || (x == y)) := by
  rw [List.take_add_one, h, Bool.eq_iff_iff]
  simp only [Option.toList_some, List.mem_append, List.mem_singleton, decide_eq_true_eq, Bool.or_eq_true, beq_iff_eq]
  exact or_congr Iff.rfl ⟨Eq.symm, Eq.symm⟩
theorem hasB_nat' (l : List UInt64) (j : Nat) : hasB l j = bitAt l j := by simp [hasB]

set_option maxRecDepth 100000 in
set_option maxHeartbeats 4000000 in
theorem ends_go (A : Option Addr) (l : List Int) (c : Nat) (n : Int) (w : World) (hl : Reads w w.heap.size 1 A l.length (intV l)) (ht : Tab w) (hlen : (l.length : Int) ≤ 9223372036854775807) :
    Calls Tryd.prog 3 #[.slice A l.length c, .int .i64 n] w fun e w' => e = .returned (.bool true) ∧ Below w.heap.size w w' := by
  obtain ⟨i0, hi0, hz0, hz1, hz2⟩ := info_parts info3
  have HR := Lib.hid (And.intro hl ht)
  clear hl ht
  have hq := umodN_is 300 (by omega) (by omega) n
  rw [show ((300 : Nat) : Int) = 300 from rfl] at hq
  have hq2 := umodN_lt 300 (by omega) n
  obtain ⟨K, hK⟩ : ∃ K : Nat, 1 + (umodN 300 n : Int) = (K : Int) := ⟨1 + umodN 300 n, by omega⟩
  have hK1 : 1 ≤ K := by omega
  have hK2 : K ≤ 300 := by omega
  clear hq2
  go_enter Tryd.func3, Tryd.ntmps3
  go_wp2_with fail
  clear hK hq
  go_loopw [6, 7] (fun v i wr => ∃ j : Nat, j ≤ l.length ∧ j ≤ 40 ∧ i = .int .i64 j ∧ Hid (Got w (modsOf K (l.take j)) v wr)) (fun _ i _ => 40 - (intOf i).toNat)
  case atStart => exact ⟨0, Nat.zero_le _, Nat.zero_le _, rfl, Lib.hid (got_nil w)⟩
  case round =>
    obtain ⟨j, hj, hj2, rfl, HG⟩ := hrel
    rename_i v i
    have hmlen : (modsOf K (l.take j)).length ≤ 40 := by rw [modsOf_len]; simp; omega
    obtain ⟨A3, c3, hv, _⟩ := own_slice HG.out.1
    subst hv
    by_cases hlt : j < l.length ∧ j < 40
    · obtain ⟨hlt1, hlt2⟩ := hlt
      obtain ⟨ad, x, rfl, hab, hx, hc0⟩ := ints_at HR.out.1 hlt1
      have hc : wr.cell? (ad.add j) = some (.int .i64 x) := (HG.out.2.cell (p := ad.add j) (by rw [block_of_add]; exact hab)).trans hc0
      have hu := umodN_is K (by omega) (by omega) x
      have HM := Lib.hid (modsOf_more K l j hx)
      clear hx hc0 hab
      go_wp2_with (at_builtin; refine wpList_append_any _ rfl (.tmp 29) (.tmp 39) _ rfl w.heap.size 3 i0 _ 1 8 Tryd.underlying22 hi0 hz0 hz1 hz2 rfl (by omega) (.slice A3 (modsOf K (l.take j)).length c3) (modsOf K (l.take j)).length (intV (modsOf K (l.take j))) rfl (HG.out.1.alloc _) (wr.heap.size + 1) (some ⟨wr.heap.size, 0, none⟩) 1 1 [.int .i64 (umodN K x : Int)] rfl (reads_new wr _ _) (by simp [Value.oneCell']) (by simp only [maxLen]; omega) (by omega) (by have := HG.out.2.size; simp; omega) ?_; intro v1 w1 hown hg _)
      have HN := Lib.hid (got_more HG.out hown hg)
      clear hown hg
      go_roundw
      case rel => exact ⟨j + 1, by omega, by omega, by go_num, by rw [HM.out]; exact HN⟩
      case measure => simp [intOf]; omega
    · have HL : Hid (∃ M, modsOf K (l.take j) = M ∧ ∀ x ∈ M, 0 ≤ x ∧ x < (K : Int)) := Lib.hid ⟨_, rfl, fun x hx => by
        simp only [modsOf, List.mem_map] at hx
        obtain ⟨y, _, rfl⟩ := hx
        have := umodN_lt K (by omega) y
        omega⟩
      obtain ⟨M, hM, hMb⟩ := HL.out
      rw [hM] at HG hmlen ⊢
      clear HL hM
      obtain ⟨r, hr1, hr2, hr3⟩ := putAll_bits K (M ++ M) (zeros ((K + 63) / 64)) (fun x hx => hMb x (by simpa using hx)) (by simp [zeros]; omega)
      have hans : ofAns (M ++ M) (K : Int) = (r, 0) := by
        have ho : ofR (M ++ M) (K : Int) = some r := by rw [ofR_in _ (by omega)]; exact hr1
        simp only [ofAns, ho]
      have hrl : r.length = (K + 63) / 64 := by rw [hr2]; simp [zeros]
      have hbit : ∀ i : Nat, bitAt r i = decide ((i : Int) ∈ M) := by
        intro i
        rw [hr3, zeros_bit, Bool.false_or]
        simp
      have hpop : popAll r = (lst r K).length := by
        rw [pop_lst]
        have h64 : 64 * r.length = K + (64 * r.length - K) := by omega
        rw [h64, lst_skip]
        intro i _
        rw [hbit]
        have : ¬ ((K + i : Nat) : Int) ∈ M := fun hm => by
          have := (hMb _ hm).2
          omega
        simpa using this
      have HS := Lib.hid (And.intro hans (And.intro hbit hpop))
      have hrl2 : r.length ≤ 64 := by omega
      have hcond : ((r.length : Int) == ((K : Int) + 63) / 64) = true := by rw [beq_iff_eq, hrl]; omega
      have hcond2 : ((r.length : Int) != ((K : Int) + 63) / 64) = false := by simp [bne, hcond]
      clear hr1 hr2 hr3 hans hbit hpop hMb hrl
      have hm1 : Reads wr wr.heap.size 1 A3 M.length (intV M) := Reads.of_own HG.out.1
      have HRm := Lib.hid (And.intro hm1 HG.out.2)
      clear hm1 HG
      have hstop : (l.length : Int) ≤ (j : Int) ∨ ((j : Int) < (l.length : Int) ∧ (40 : Int) ≤ (j : Int)) := by omega
      have hmm : (M ++ M).length = M.length + M.length := List.length_append
      have HMM := Lib.hid hmm
      clear hmm hlt
      rcases hstop with hstop | ⟨hstop, hstop2⟩
      all_goals
        go_wp2_with (first | (at_builtin; refine wpList_append_any _ rfl (.tmp 42) (.tmp 43) _ rfl wr.heap.size 3 i0 _ 1 8 Tryd.underlying22 hi0 hz0 hz1 hz2 rfl (by omega) (.slice (some ⟨wr.heap.size, 0, none⟩) 0 0) 0 [] rfl (World.ownsRow_made wr #[] 0 (Nat.le_refl _) (by simp [maxLen]) (by simp)) wr.heap.size A3 M.length c3 (intV M) rfl (HRm.out.1.alloc (Nat.le_refl _) _) (intV_one M) (by simp only [maxLen]; omega) (by omega) (by simp) ?_; intro v1 w1 hown hg _; rw [Nat.zero_add, List.nil_append] at hown; obtain ⟨A4, c4, hv, _⟩ := own_slice hown; subst hv; have H1 := Lib.hid (And.intro hown (((Below.refl wr.heap.size wr).alloc (Nat.le_refl _) _).grown hg (by simp) (by simp [Value.ownBlock]))); clear hown hg) | (at_builtin; refine wpList_append_any _ rfl (.tmp 44) (.tmp 45) _ rfl wr.heap.size 3 i0 _ 1 8 Tryd.underlying22 hi0 hz0 hz1 hz2 rfl (by omega) (.slice A4 M.length c4) M.length (intV M) rfl H1.out.1 wr.heap.size A3 M.length c3 (intV M) rfl (HRm.out.1.below H1.out.2) (intV_one M) (by simp only [maxLen]; omega) (by omega) H1.out.2.size ?_; intro v2 w2 hown hg _; rw [← HMM.out, ← intV_append] at hown; obtain ⟨A5, c5, hv, _⟩ := own_slice hown; subst hv; have H2 := Lib.hid (And.intro hown (H1.out.2.grown hg H1.out.2.size (fun k hk => (H1.out.1.lt k hk).1))); clear hown hg))
        have hof : Calls Tryd.prog 8 #[.slice A5 (M.length + M.length) c5, .int .i64 (K : Int)] w2 fun e w' => OfIs w2 (r, 0) e w' := by
          have h := of_any A5 (M ++ M) c5 K w2 (Reads.of_own H2.out.1) (by rw [HMM.out]; omega)
          rw [HS.out.1, HMM.out] at h
          exact h
        refine hof.mono ?_
        clear hof
        rintro e w3 ⟨A6, c6, rfl, hr6, hb6⟩
        have H3 : Hid (Reads w3 w3.heap.size 1 A6 r.length (wordV r) ∧ Reads w3 w3.heap.size 1 A3 M.length (intV M) ∧ Below w.heap.size w w3) := Lib.hid ⟨hr6, (HRm.out.1.go H2.out.2).go hb6, bel_step (bel_step HRm.out.2 H2.out.2) hb6⟩
        clear hr6 hb6
        go_wp2_with fail
        go_loop [10, 11] (fun m i => ∃ i' : Nat, i' ≤ K ∧ i = .int .i64 i' ∧ m = .int .i64 ((lst r i').length : Nat)) (fun _ i => K - (intOf i).toNat)
        case atStart => exact ⟨0, Nat.zero_le _, rfl, rfl⟩
        case round =>
          obtain ⟨i', hi', rfl, rfl⟩ := hrel
          have hcount := lst_len r i'
          by_cases hik : i' < K
          · go_wp2_with fail
            go_loop [12, 13] (fun b q => ∃ (q' : Nat) (b' : Bool), q' ≤ M.length ∧ q = .int .i64 q' ∧ b = .bool b' ∧ Hid (b' = decide ((i' : Int) ∈ M.take q'))) (fun _ q => M.length - (intOf q).toNat)
            case atStart => exact ⟨0, false, Nat.zero_le _, rfl, rfl, Lib.hid (by simp)⟩
            case round =>
              obtain ⟨q, b, hq, rfl, rfl, HQ⟩ := hrel
              by_cases hqm : q < M.length
              · obtain ⟨ad, x, rfl, _, hx, hc⟩ := ints_at H3.out.2.1 hqm
                have HT : Hid (decide ((i' : Int) ∈ M.take (q + 1)) = (decide ((i' : Int) ∈ M.take q) || (x == (i' : Int)))) := Lib.hid (mem_take_more hx)
                clear hx
                cases b with
                | true =>
                  go_wp2_with fail
                  go_round
                  case rel => exact ⟨q + 1, true, by omega, by go_num, rfl, Lib.hid (by rw [HT.out, ← HQ.out, Bool.true_or])⟩
                  case measure => simp [intOf]; omega
                | false =>
                  obtain ⟨bb, hbb⟩ : ∃ bb, (x == (i' : Int)) = bb := ⟨_, rfl⟩
                  have HBB := Lib.hid hbb
                  go_wp2_with fail
                  clear hbb
                  go_round
                  case rel => exact ⟨q + 1, bb, by omega, by go_num, rfl, Lib.hid (by rw [HT.out, ← HQ.out, HBB.out, Bool.false_or])⟩
                  case measure => simp [intOf]; omega
              · obtain rfl : q = M.length := by omega
                have hbr : bitAt r i' = b := by rw [HS.out.2.1, HQ.out, List.take_length]
                have hh : hasB r i' = b := by rw [hasB_nat', hbr]
                have HH := Lib.hid (And.intro hbr hh)
                clear hbr hh
                cases b with
                | true =>
                  have HN := Lib.hid (lst_yes HH.out.1)
                  go_wp2_with fail
                  refine (has_any i' A6 r c6 w3 H3.out.1 (by omega)).mono ?_
                  rw [HH.out.2]
                  rintro e w4 ⟨rfl, rfl⟩
                  go_wp2_with fail
                  go_round
                  case rel => exact ⟨i' + 1, by omega, by go_num, by rw [HN.out, List.length_append]; go_num⟩
                  case measure => simp [intOf]; omega
                | false =>
                  have HN := Lib.hid (lst_no HH.out.1)
                  go_wp2_with fail
                  refine (has_any i' A6 r c6 w3 H3.out.1 (by omega)).mono ?_
                  rw [HH.out.2]
                  rintro e w4 ⟨rfl, rfl⟩
                  go_wp2_with fail
                  go_round
                  case rel => exact ⟨i' + 1, by omega, by go_num, by rw [HN.out]⟩
                  case measure => simp [intOf]; omega
          · obtain rfl : i' = K := by omega
            go_wp2_with fail
            refine (told_any w3 (HR.out.2.below H3.out.2.2 HR.out.2.1)).mono ?_
            rintro e w4 ⟨rfl, hb4⟩
            have H4 := Lib.hid (And.intro (H3.out.1.go hb4) (bel_step H3.out.2.2 hb4))
            clear hb4
            go_wp2_with fail
            refine (count_any A6 r c6 w4 H4.out.1 (by omega)).mono ?_
            rw [HS.out.2.2]
            rintro e w5 ⟨rfl, rfl⟩
            go_wp2_with fail
            go_ret
            exact ⟨rfl, H4.out.2⟩
end Go.Proofs.YtfmdloomjnmpgaaDoor
