/-
  DiskPlays answers true at every number, any faults, any steps.
-/
import Derived.Test.YtfmdloomjnmpgaaPlaysG
namespace Go.Proofs.Ytfmdloomjnmpgaa
open Go.RowKit

set_option maxRecDepth 100000 in
set_option maxHeartbeats 4000000 in
theorem plays_many (n : Int) (Af : Option Addr) (fl cf : Nat) (A : Option Addr) (l c : Nat) (w : World) (h : 4 < (fl : Int) ∨ 50 < (l : Int)) :
    Calls Try.prog 3 #[.int .i64 n, .slice Af fl cf, .slice A l c] w fun e w' => e = .returned (.bool true) ∧ Below w.heap.size w w' := by
  by_cases h1 : 4 < (fl : Int)
  · clear h
    go_enter Try.func3, Try.ntmps3
    go_wp2_with fail
    refine (told_any _).mono ?_
    rintro e w3 ⟨rfl, hb3⟩
    have H3 := Lib.hid hb3
    clear hb3
    go_wp2_with fail
    go_ret
    exact ⟨rfl, H3.out⟩
  · have h2 : 50 < (l : Int) := by omega
    clear h
    go_enter Try.func3, Try.ntmps3
    go_wp2_with fail
    refine (told_any _).mono ?_
    rintro e w3 ⟨rfl, hb3⟩
    have H3 := Lib.hid hb3
    clear hb3
    go_wp2_with fail
    go_ret
    exact ⟨rfl, H3.out⟩

set_option maxRecDepth 100000 in
set_option maxHeartbeats 4000000 in
theorem plays_bad (n : Int) (Af : Option Addr) (fl cf : Nat) (A : Option Addr) (l c : Nat) (w : World) (h1 : (fl : Int) ≤ 4) (h2 : (l : Int) ≤ 50) (h : n < 0 ∨ 1048576 < n) :
    Calls Try.prog 3 #[.int .i64 n, .slice Af fl cf, .slice A l c] w fun e w' => e = .returned (.bool true) ∧ Below w.heap.size w w' := by
  have h3 : ¬ (400 < n ∧ n ≤ 1048576) := by omega
  rcases h with hn | hn
  all_goals
    have h4 : n < 0 ∨ 1048576 < n := by omega
    have H4 := Lib.hid h4
    clear h4 h3
    go_enter Try.func3, Try.ntmps3
    go_wp2_with fail
    refine (new_bad Af fl cf n _ H4.out).mono ?_
    rintro e w1 ⟨rfl, rfl⟩
    go_wp2_with fail
    refine (refnew_bad Af fl cf n _ H4.out).mono ?_
    rintro e w1 ⟨rfl, rfl⟩
    go_wp2_with fail
    refine (told_any _).mono ?_
    rintro e w3 ⟨rfl, hb3⟩
    have H3 := Lib.hid hb3
    clear hb3
    go_wp2_with fail
    go_ret
    exact ⟨rfl, H3.out⟩

theorem plays_law (n : Int) (Af : Option Addr) (fs : List (Int × Int)) (cf : Nat) (A : Option Addr) (ops : List OpV) (c : Nat) (w : World) (hf : Reads w w.heap.size 2 Af fs.length (faultCells fs))
    (hfk : ∀ f ∈ fs, -9223372036854775808 ≤ f.2 ∧ f.2 ≤ 9223372036854775807) (hr : OpsIn w A ops) :
    Calls Try.prog 3 #[.int .i64 n, .slice Af fs.length cf, .slice A ops.length c] w fun e w' => e = .returned (.bool true) ∧ Below w.heap.size w w' := by
  by_cases h1 : 4 < (fs.length : Int) ∨ 50 < (ops.length : Int)
  · exact plays_many n Af _ cf A _ c w h1
  · by_cases h2 : n < 0 ∨ 1048576 < n
    · exact plays_bad n Af _ cf A _ c w (by omega) (by omega) h2
    · obtain ⟨m, rfl⟩ : ∃ m : Nat, n = (m : Int) := ⟨n.toNat, by omega⟩
      exact plays_good m Af fs cf A ops c w (by omega) hf (by omega) hfk hr (by omega)
end Go.Proofs.Ytfmdloomjnmpgaa
