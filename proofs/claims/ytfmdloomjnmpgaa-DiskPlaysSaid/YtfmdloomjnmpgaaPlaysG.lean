/-
  DiskPlays: the disk and the reference's disk, step by step.
-/
import Derived.Test.YtfmdloomjnmpgaaSwA
import Derived.Test.YtfmdloomjnmpgaaSwS
import Derived.Test.YtfmdloomjnmpgaaSwU
import Derived.Test.YtfmdloomjnmpgaaSwT
import Derived.Test.YtfmdloomjnmpgaaSwR
namespace Go.Proofs.Ytfmdloomjnmpgaa
open Go.RowKit

theorem never_mono {K : Act → World → Prop} {Q : Exit → Act → World → Prop} : ∀ (e : Exit) (a : Act) (w : World), Exit.then K (fun _ _ _ => False) e a w → Exit.then K Q e a w := by
  intro e a w h
  cases e <;> first | exact h | exact h.elim

set_option maxRecDepth 1000000 in
set_option maxHeartbeats 4000000 in
theorem plays_good (n : Nat) (Af : Option Addr) (fs : List (Int × Int)) (cf : Nat) (A : Option Addr) (ops : List OpV) (c : Nat) (w : World) (hn : n ≤ 1048576) (hf : Reads w w.heap.size 2 Af fs.length (faultCells fs)) (hfl : fs.length ≤ 4)
    (hfk : ∀ f ∈ fs, -9223372036854775808 ≤ f.2 ∧ f.2 ≤ 9223372036854775807) (hr : OpsIn w A ops) (hl : ops.length ≤ 50) :
    Calls Try.prog 3 #[.int .i64 n, .slice Af fs.length cf, .slice A ops.length c] w fun e w' => e = .returned (.bool true) ∧ Below w.heap.size w w' := by
  have HR := Lib.hid hr
  have HF := Lib.hid (And.intro hf hfk)
  clear hr hf hfk
  go_enter Try.func3, Try.ntmps3
  go_upto_region 4 with (fail)
  go_cut [35] (fun v wc => ∃ b : Bool, (b = true → 400 < n) ∧ (b = false → n ≤ 400) ∧ v = .bool b ∧ w = wc)
  case first =>
    by_cases h4 : (400 : Int) < (n : Int)
    · go_wp2_with fail
      go_meet
      case rel => exact ⟨true, fun _ => by omega, (fun h => by cases h), by simp; omega, by trivial⟩
    · go_wp2_with fail
      go_meet
      case rel => exact ⟨false, fun h => (by cases h), fun _ => by omega, rfl, by trivial⟩
  case rest =>
    obtain ⟨b, hb1, hb2, rfl, rfl⟩ := hcut
    have HB := Lib.hid (And.intro hb1 hb2)
    clear hb1 hb2
    go_upto_if 35 with (fail)
    go_cut [7] (fun v wc => ∃ n2 : Nat, n2 ≤ 400 ∧ v = .int .i64 n2 ∧ w = wc)
    case first =>
      cases b with
      | true =>
        have h4 := HB.out.1 rfl
        obtain ⟨n2, hn2, hlt⟩ : ∃ n2 : Nat, (n : Int).tmod 401 = (n2 : Int) ∧ n2 ≤ 400 := ⟨n % 401, by rw [Int.tmod_eq_emod_of_nonneg (by omega)]; omega, by omega⟩
        go_wp2_with fail
        go_meet
        case rel => exact ⟨n2, hlt, (by first | rfl | rw [hn2]), by trivial⟩
      | false =>
        have h4 := HB.out.2 rfl
        go_wp2_with fail
        go_meet
        case rel => exact ⟨n, h4, rfl, by trivial⟩
    case rest =>
      obtain ⟨n2, hn2, rfl, rfl⟩ := hcut
      clear HB
      go_wp2_with fail
      refine (new_any Af fs cf w.heap.size n2 _ (by omega) (Nat.le_refl _) HF.out.1 (by omega) HF.out.2).mono ?_
      rintro e w1 ⟨g, rfl, hd, hb, hg⟩
      have H1 := Lib.hid (And.intro hd (And.intro hb hg))
      clear hd hb hg
      go_wp2_with fail
      refine (refnew_any Af fs cf w.heap.size n2 _ (by omega) H1.out.2.1.size ((HF.out.1.below H1.out.2.1).more H1.out.2.1.size) (by omega) HF.out.2).mono ?_
      rintro e w2 ⟨h, rfl, hd, hb, hg⟩
      have HD : Hid (PlayHead w g h 0 (St.new n2 fs) w2) := ⟨H1.out.1.below hb, hd, H1.out.2.1.trans (hb.mono H1.out.2.1.size), Nat.zero_le _, hn2, H1.out.2.2⟩
      clear hd hb hg H1
      go_wp2_with fail
      go_loopg [10] ops.length (fun m i wr => ∃ k : Nat, k ≤ ops.length ∧ m = ops.length - k ∧ i = .int .i64 k ∧ ∃ st : St, Hid (PlayHead w g h k st wr))
      case atStart => exact ⟨0, Nat.zero_le _, rfl, rfl, _, HD⟩
      case round =>
        obtain ⟨k, hk, rfl, rfl, st, H0⟩ := hrel
        clear HD
        by_cases hlt : k < ops.length
        · obtain ⟨ad, B, cB, rfl, ho⟩ := HR.out k hlt
          obtain ⟨o, hoe⟩ : ∃ o : OpV, o = ops[k] := ⟨_, rfl⟩
          rw [← hoe] at ho
          have hbl : ad.block < w.heap.size := by have := World.block_lt_of_cell? w _ ho.k; rwa [block_of_add] at this
          have hbw := H0.out.2.2.1
          have q0 := (hbw.cell (p := ad.add (k * 3)) (by rw [block_of_add]; exact hbl)).trans ho.k
          have q1 := (hbw.cell (p := ad.add (k * 3 + 1)) (by rw [block_of_add]; exact hbl)).trans ho.n
          have q2 := (hbw.cell (p := ad.add (k * 3 + 2)) (by rw [block_of_add]; exact hbl)).trans ho.b
          rw [← Addr.add_add] at q1 q2
          have q1' : wr.cell? ⟨(ad.add (k * 3)).block, (ad.add (k * 3)).off + 1, none⟩ = some (.int .i64 o.n) := q1
          have q2' : wr.cell? ⟨(ad.add (k * 3)).block, (ad.add (k * 3)).off + 2, none⟩ = some (.slice B o.b.length cB) := q2
          clear q1 q2
          have hk0 : (0 : Int) ≤ (k : Int) := by omega
          have hk1 : (k : Int) < (ops.length : Int) := by omega
          have HO := Lib.hid (And.intro hoe ho)
          clear ho hbw
          clear hoe
          by_cases hbig : (100 : Int) < (o.b.length : Int)
          · go_wp2_with fail
            refine (told_any _).mono ?_
            rintro e w3 ⟨rfl, hb3⟩
            have H3 := Lib.hid ((H0.out.2.2.1.alloc H0.out.2.2.1.size _).trans (hb3.mono (by have := H0.out.2.2.1.size; simp; omega)))
            clear hb3
            go_wp2_with fail
            go_ret
            exact ⟨rfl, H3.out⟩
          · obtain ⟨kk, hkk, hkk1⟩ := and7 o.k
            go_upto_block 2 with (fail)
            have HW : Hid (PlayHead w g h k st (wr.alloc (.cells #[.int .i64 o.k, .int .i64 o.n, .slice B o.b.length cB] 31)) ∧ Blk (wr.alloc (.cells #[.int .i64 o.k, .int .i64 o.n, .slice B o.b.length cB] 31)) wr.heap.size 31 #[.int .i64 o.k, .int .i64 o.n, .slice B o.b.length cB] ∧ w.heap.size ≤ wr.heap.size) := by
              obtain ⟨h1, h2, h3, h4, h5, h6⟩ := H0.out
              have hbb := (Below.refl wr.heap.size wr).alloc (Nat.le_refl _) (.cells #[.int .i64 o.k, .int .i64 o.n, .slice B o.b.length cB] 31)
              exact ⟨⟨h1.below hbb, h2.below hbb, h3.alloc h3.size _, h4, h5, h6⟩, Blk.new _ _ _, h3.size⟩
            clear q0 q1' q2' H0
            generalize wr.alloc (.cells #[.int .i64 o.k, .int .i64 o.n, .slice B o.b.length cB] 31) = wo at *
            generalize wr.heap.size = ob at *
            clear hkk
            go_cut [12, 13] (fun a b wc => ∃ (e : Int) (st2 : St), a = .int .i64 e ∧ b = .int .i64 e ∧ Hid (PlayHead w g h (k + 1) st2 wc))
            case first =>
              have hlc : o.b.length ≤ 100 ∧ k ≤ 50 := by omega
              have HO2 := Lib.hid HO.out.2
              clear HO
              rename_i Jm Km hJm hKm
              by_cases hk4 : kk < 4
              · exact Code.wp_mono never_mono (sw_append _ _ _ _ _ _ _ _ _ _ _ _ _ _ _ _ _ _ _ _ _ _ _ _ _ _ _ _ _ _ _ _ _ _ _ _ _ _ _ _ _ _ _ _ _ _ _ _ _ _ _ _ _ _ _ _ _ _ _ _ _ _ _ _ _ _ _ _ _ _ _ _ _ _ _ _ _ _ _ _ _ _ _ _ _ _ _ _ _ _ _ _ _ _ _ _ _ _ _ _ _ _ _ _ _ _ _ _ _ _ _ _ _ _ _ _ _ _ _ _ _ _ _ _ _ _ _ _ _ _ _ _ _ _ _ _ _ _ _ _ _ _ _ _ _ _ _ _ _ _ _ _ _ _ _ _ _ _ _ _ _ _ _ _ _ _ _ _ _ _ _ _ _ _ _ _ _ _ _ _ _ _ _ _ _ _ _ _ _ _ _ _ _ _ _ _ _ _ _ _ _ _ _ _ _ _ _ _ _ _ _ _ _ _ _ _ _ _ _ _ _ _ _ _ _ _ _ _ _ _ _ _ _ _ _ _ _ _ _ _ _ _ _ _ _ _ _ hfl HF hk0 HO2 hlc HW hJm hKm hk4)
              · by_cases hk5 : kk = 4
                · exact Code.wp_mono never_mono (sw_sync _ _ _ _ _ _ _ _ _ _ _ _ _ _ _ _ _ _ _ _ _ _ _ _ _ _ _ _ _ _ _ _ _ _ _ _ _ _ _ _ _ _ _ _ _ _ _ _ _ _ _ _ _ _ _ _ _ _ _ _ _ _ _ _ _ _ _ _ _ _ _ _ _ _ _ _ _ _ _ _ _ _ _ _ _ _ _ _ _ _ _ _ _ _ _ _ _ _ _ _ _ _ _ _ _ _ _ _ _ _ _ _ _ _ _ _ _ _ _ _ _ _ _ _ _ _ _ _ _ _ _ _ _ _ _ _ _ _ _ _ _ _ _ _ _ _ _ _ _ _ _ _ _ _ _ _ _ _ _ _ _ _ _ _ _ _ _ _ _ _ _ _ _ _ _ _ _ _ _ _ _ _ _ _ _ _ _ _ _ _ _ _ _ _ _ _ _ _ _ _ _ _ _ _ _ _ _ _ _ _ _ _ _ _ _ _ _ _ _ _ _ _ _ _ _ _ _ _ _ _ _ _ _ _ _ _ _ _ _ _ _ _ _ _ _ _ _ hfl HF hk0 HO2 hlc HW hJm hKm hk5)
                · by_cases hk6 : kk = 6
                  · exact Code.wp_mono never_mono (sw_up _ _ _ _ _ _ _ _ _ _ _ _ _ _ _ _ _ _ _ _ _ _ _ _ _ _ _ _ _ _ _ _ _ _ _ _ _ _ _ _ _ _ _ _ _ _ _ _ _ _ _ _ _ _ _ _ _ _ _ _ _ _ _ _ _ _ _ _ _ _ _ _ _ _ _ _ _ _ _ _ _ _ _ _ _ _ _ _ _ _ _ _ _ _ _ _ _ _ _ _ _ _ _ _ _ _ _ _ _ _ _ _ _ _ _ _ _ _ _ _ _ _ _ _ _ _ _ _ _ _ _ _ _ _ _ _ _ _ _ _ _ _ _ _ _ _ _ _ _ _ _ _ _ _ _ _ _ _ _ _ _ _ _ _ _ _ _ _ _ _ _ _ _ _ _ _ _ _ _ _ _ _ _ _ _ _ _ _ _ _ _ _ _ _ _ _ _ _ _ _ _ _ _ _ _ _ _ _ _ _ _ _ _ _ _ _ _ _ _ _ _ _ _ _ _ _ _ _ _ _ _ _ _ _ _ _ _ _ _ _ _ _ _ _ _ _ _ hfl HF hk0 HO2 hlc HW hJm hKm hk6)
                  · by_cases hk7 : kk = 5
                    · exact Code.wp_mono never_mono (sw_trunc _ _ _ _ _ _ _ _ _ _ _ _ _ _ _ _ _ _ _ _ _ _ _ _ _ _ _ _ _ _ _ _ _ _ _ _ _ _ _ _ _ _ _ _ _ _ _ _ _ _ _ _ _ _ _ _ _ _ _ _ _ _ _ _ _ _ _ _ _ _ _ _ _ _ _ _ _ _ _ _ _ _ _ _ _ _ _ _ _ _ _ _ _ _ _ _ _ _ _ _ _ _ _ _ _ _ _ _ _ _ _ _ _ _ _ _ _ _ _ _ _ _ _ _ _ _ _ _ _ _ _ _ _ _ _ _ _ _ _ _ _ _ _ _ _ _ _ _ _ _ _ _ _ _ _ _ _ _ _ _ _ _ _ _ _ _ _ _ _ _ _ _ _ _ _ _ _ _ _ _ _ _ _ _ _ _ _ _ _ _ _ _ _ _ _ _ _ _ _ _ _ _ _ _ _ _ _ _ _ _ _ _ _ _ _ _ _ _ _ _ _ _ _ _ _ _ _ _ _ _ _ _ _ _ _ _ _ _ _ _ _ _ _ _ _ _ _ hfl HF hk0 HO2 hlc HW hJm hKm hk7)
                    · have hk8 : kk = 7 := by omega
                      exact Code.wp_mono never_mono (sw_read _ _ _ _ _ _ _ _ _ _ _ _ _ _ _ _ _ _ _ _ _ _ _ _ _ _ _ _ _ _ _ _ _ _ _ _ _ _ _ _ _ _ _ _ _ _ _ _ _ _ _ _ _ _ _ _ _ _ _ _ _ _ _ _ _ _ _ _ _ _ _ _ _ _ _ _ _ _ _ _ _ _ _ _ _ _ _ _ _ _ _ _ _ _ _ _ _ _ _ _ _ _ _ _ _ _ _ _ _ _ _ _ _ _ _ _ _ _ _ _ _ _ _ _ _ _ _ _ _ _ _ _ _ _ _ _ _ _ _ _ _ _ _ _ _ _ _ _ _ _ _ _ _ _ _ _ _ _ _ _ _ _ _ _ _ _ _ _ _ _ _ _ _ _ _ _ _ _ _ _ _ _ _ _ _ _ _ _ _ _ _ _ _ _ _ _ _ _ _ _ _ _ _ _ _ _ _ _ _ _ _ _ _ _ _ _ _ _ _ _ _ _ _ _ _ _ _ _ _ _ _ _ _ _ _ _ _ _ _ _ _ _ _ _ _ _ _ hfl HF hk0 HO2 hlc HW hJm hKm hk8)
            case rest =>
              as_aux_lemma =>
                obtain ⟨e, st2, rfl, rfl, HN⟩ := hcut
                have d2 := HN.out.str
                have hz := bstr_size st2.b
                have hb4 := HN.out.len
                clear HW
                go_wp2_with fail
                refine (read_does 0 st2.b.length g w.heap.size st2 _ HN.out.1 (by omega)).mono ?_
                rintro e5 w5 ⟨A5, c5, rfl, hown, hb5⟩
                rw [List.drop_zero, List.take_length] at hown
                have HC : Hid (∀ w9, Behind w5 w9 → (convert 29 9 (.slice A5 st2.b.length c5)).run Try.prog w9 = .ok (.string (bstr st2.b)) w9 ∧ PlayHead w g h (k + 1) st2 w9) := by
                  intro w9 h9
                  have hp5 := HN.out.behind hb5
                  exact ⟨conv_reads ((Reads.of_own hown).below h9), hp5.behind h9⟩
                clear hown hb5 d2
                go_wp2_with fail
                refine wp_region_class (C := Behind w5) (by kernel_rfl) (by kernel_rfl) (Behind.drew w5) ?_
                repeat (first | go_big_quiet_skip | (go_big_quiet_want; go_big_quiet_op; go_big_quiet_on) | (go_big_quiet_want; go_big_quiet_op; refine ⟨_, fun _ _ => rfl, ?_⟩; go_big_quiet_on) | (go_big_quiet_want; go_big_quiet_op; apply Exists.intro; refine ⟨fun wq hq => ?_, ?_⟩; (first | (go_at_call 20; exact (len_any g w.heap.size _ wq (HC.out wq hq).2.1).mono fun e w' ⟨he, hw⟩ => ⟨he, hw ▸ hq⟩) | (go_at_call 21; exact (synced_any g w.heap.size _ wq (HC.out wq hq).2.1).mono fun e w' ⟨he, hw⟩ => ⟨he, hw ▸ hq⟩) | (go_at_call 22; exact (down_any g w.heap.size _ wq (HC.out wq hq).2.1).mono fun e w' ⟨he, hw⟩ => ⟨he, hw ▸ hq⟩) | (go_at_call 23; exact (calls_any g w.heap.size _ wq (HC.out wq hq).2.1).mono fun e w' ⟨he, hw⟩ => ⟨he, hw ▸ hq⟩)); go_big_quiet_on) | (go_big_quiet_want; refine quiet_conv (.tmp 209) rfl rfl (fun wq hq => (HC.out wq hq).1) ?_; go_simp; go_big_quiet_on) | (go_big_quiet_want; refine quiet_load (.tmp 213) rfl rfl (fun wq hq => load9 (HC.out wq hq).2.str) ?_; go_simp; go_big_quiet_on) | (go_big_quiet_want; refine quiet_load (.tmp 222) rfl rfl (fun wq hq => load9 (HC.out wq hq).2.str) ?_; go_simp; go_big_quiet_on) | (go_big_quiet_want; refine quiet_load (.tmp 232) rfl rfl (fun wq hq => load3 (HC.out wq hq).2.syn) ?_; go_simp; go_big_quiet_on) | (go_big_quiet_want; refine quiet_load (.tmp 241) rfl rfl (fun wq hq => load4 (HC.out wq hq).2.dwn) ?_; go_simp; go_big_quiet_on) | (go_big_quiet_want; refine quiet_load (.tmp 250) rfl rfl (fun wq hq => load3 (HC.out wq hq).2.cls) ?_; go_simp; go_big_quiet_on))
                refine wpQuiet_nil ?_
                intro w9 hq9
                have H9 := Lib.hid (HC.out w9 hq9).2
                clear hq9
                go_wp2_with fail
                go_roundg (ops.length - (k + 1))
                case measure => omega
                case rel => exact ⟨k + 1, by omega, rfl, by go_num, st2, H9⟩
        · go_wp2_with fail
          refine (told_any _).mono ?_
          rintro e w3 ⟨rfl, hb3⟩
          have H3 := Lib.hid (H0.out.2.2.1.trans (hb3.mono H0.out.2.2.1.size))
          clear hb3
          go_wp2_with fail
          go_ret
          exact ⟨rfl, H3.out⟩
end Go.Proofs.Ytfmdloomjnmpgaa
