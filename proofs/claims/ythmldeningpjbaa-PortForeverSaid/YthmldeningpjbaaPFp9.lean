/- slices.Clone at slices of structs (printed by wip/tools/clone.py) -/
import Derived.Test.YthmldeningpjbaaPFp8
import Derived.Test.YthmldeningpjbaaPFp1
set_option linter.unusedVariables false
set_option linter.unusedSimpArgs false
namespace Go.Proofs.Ythmldeningpjbaa
open Go Go.RowKit Sp
set_option linter.unusedVariables false

theorem infoPtI : (Try.prog.info? 3).map (fun i => (i.zero, i.size, i.bytes)) = some (some (.int .i64 0), 1, 8) := by kernel_rfl
set_option maxRecDepth 100000 in
set_option maxHeartbeats 1000000 in
theorem clonePtI_any (A : Option Addr) (n c : Nat) (xs : List Value) (w : World) (hr : Rd w 1 A n xs) (h1 : ∀ u ∈ xs, u.oneCell' = true) (hc : A = none → n = 0 ∧ c = 0) (hl : n ≤ 100000000) :
    Calls Try.prog 82 #[.slice A n c] w (CloneS w 3 1 n xs) := by
  obtain ⟨i0, hi, hz0, hz1, hz2⟩ := info_parts infoPtI
  have hnil := fun (w : World) (a : Option Addr) (n c : Nat) => Lib.run_eql_slice_nil (P := Try.prog) w 33 3 a n c 0 0 Try.underlying33
  cases A with
  | none =>
    obtain ⟨rfl, rfl⟩ := hc rfl
    obtain rfl : xs = [] := List.eq_nil_of_length_eq_zero (by have := hr.1; omega)
    go_enter Try.func82, Try.ntmps82
    go_wp2_with fail
    go_ret
    exact ⟨none, 0, [], rfl, OwnS.nil _ _ _, by simp, Below.refl _ _⟩
  | some ad =>
    have HR := Lib.hid (And.intro hr h1)
    clear hr hc h1
    go_enter Try.func82, Try.ntmps82
    go_wp2_with (at_builtin
                 refine wpList_append_M rfl (.tmp 5) (.tmp 6) 33 rfl i0 _ 8 Try.underlying33 hi hz0 hz1 hz2 rfl (A := some ⟨w.heap.size, 0, none⟩) (n := 0) (c := 0) (B := some ad) (m := n) (d := c) (xs := []) (fp := [w.heap.size]) (ys := xs) (by simp [Act.eval]) (by simp [Act.eval]) ⟨by simp, .inr ⟨_, _, rfl, rfl, heap_alloc_new w _, by omega, by omega, rfl, by simp⟩⟩ (HR.out.1.below ((Below.refl _ _).alloc (Nat.le_refl _) _)) HR.out.2 (by omega) (by omega) ?_
                 intro A' c' w' fp' h1 h2 h3
                 have HQ := Lib.hid (And.intro h1 (And.intro h2 h3))
                 clear h1 h2 h3)
    go_ret
    obtain ⟨h1, h2, h3⟩ := HQ.out
    refine ⟨A', c', fp', by simp, by simpa using h1, fun g hg => ?_, ((Below.refl w.heap.size w).alloc (Nat.le_refl _) _).trans (h3.below (by simp) (by simp))⟩
    rcases h2 g hg with h | h
    · simp at h; omega
    · simp at h; omega

theorem infoPtB : (Try.prog.info? 4).map (fun i => (i.zero, i.size, i.bytes)) = some (some (.bool false), 1, 1) := by kernel_rfl
set_option maxRecDepth 100000 in
set_option maxHeartbeats 1000000 in
theorem clonePtB_any (A : Option Addr) (n c : Nat) (xs : List Value) (w : World) (hr : Rd w 1 A n xs) (h1 : ∀ u ∈ xs, u.oneCell' = true) (hc : A = none → n = 0 ∧ c = 0) (hl : n ≤ 100000000) :
    Calls Try.prog 122 #[.slice A n c] w (CloneS w 4 1 n xs) := by
  obtain ⟨i0, hi, hz0, hz1, hz2⟩ := info_parts infoPtB
  have hnil := fun (w : World) (a : Option Addr) (n c : Nat) => Lib.run_eql_slice_nil (P := Try.prog) w 40 4 a n c 0 0 Try.underlying40
  cases A with
  | none =>
    obtain ⟨rfl, rfl⟩ := hc rfl
    obtain rfl : xs = [] := List.eq_nil_of_length_eq_zero (by have := hr.1; omega)
    go_enter Try.func122, Try.ntmps122
    go_wp2_with fail
    go_ret
    exact ⟨none, 0, [], rfl, OwnS.nil _ _ _, by simp, Below.refl _ _⟩
  | some ad =>
    have HR := Lib.hid (And.intro hr h1)
    clear hr hc h1
    go_enter Try.func122, Try.ntmps122
    go_wp2_with (at_builtin
                 refine wpList_append_M rfl (.tmp 5) (.tmp 6) 40 rfl i0 _ 1 Try.underlying40 hi hz0 hz1 hz2 rfl (A := some ⟨w.heap.size, 0, none⟩) (n := 0) (c := 0) (B := some ad) (m := n) (d := c) (xs := []) (fp := [w.heap.size]) (ys := xs) (by simp [Act.eval]) (by simp [Act.eval]) ⟨by simp, .inr ⟨_, _, rfl, rfl, heap_alloc_new w _, by omega, by omega, rfl, by simp⟩⟩ (HR.out.1.below ((Below.refl _ _).alloc (Nat.le_refl _) _)) HR.out.2 (by omega) (by omega) ?_
                 intro A' c' w' fp' h1 h2 h3
                 have HQ := Lib.hid (And.intro h1 (And.intro h2 h3))
                 clear h1 h2 h3)
    go_ret
    obtain ⟨h1, h2, h3⟩ := HQ.out
    refine ⟨A', c', fp', by simp, by simpa using h1, fun g hg => ?_, ((Below.refl w.heap.size w).alloc (Nat.le_refl _) _).trans (h3.below (by simp) (by simp))⟩
    rcases h2 g hg with h | h
    · simp at h; omega
    · simp at h; omega

theorem infoChn : (Try.prog.info? 144).map (fun i => (i.zero, i.size, i.bytes)) = some (some (.agg #[.int .i64 0, .int .i64 0, .int .i64 0]), 3, 24) := by kernel_rfl
set_option maxRecDepth 100000 in
set_option maxHeartbeats 1000000 in
theorem cloneChn_any (A : Option Addr) (n c : Nat) (xs : List Value) (w : World) (hr : Rd w 3 A n xs) (h1 : ∀ u ∈ xs, u.oneCell' = true) (hc : A = none → n = 0 ∧ c = 0) (hl : n ≤ 100000000) :
    Calls Try.prog 85 #[.slice A n c] w (CloneS w 144 3 n xs) := by
  obtain ⟨i0, hi, hz0, hz1, hz2⟩ := info_parts infoChn
  have hnil := fun (w : World) (a : Option Addr) (n c : Nat) => Lib.run_eql_slice_nil (P := Try.prog) w 23 144 a n c 0 0 Try.underlying23
  cases A with
  | none =>
    obtain ⟨rfl, rfl⟩ := hc rfl
    obtain rfl : xs = [] := List.eq_nil_of_length_eq_zero (by have := hr.1; omega)
    go_enter Try.func85, Try.ntmps85
    go_wp2_with fail
    go_ret
    exact ⟨none, 0, [], rfl, OwnS.nil _ _ _, by simp, Below.refl _ _⟩
  | some ad =>
    have HR := Lib.hid (And.intro hr h1)
    clear hr hc h1
    go_enter Try.func85, Try.ntmps85
    go_wp2_with (at_builtin
                 refine wpList_append_M rfl (.tmp 5) (.tmp 6) 23 rfl i0 _ 24 Try.underlying23 hi hz0 hz1 hz2 rfl (A := some ⟨w.heap.size, 0, none⟩) (n := 0) (c := 0) (B := some ad) (m := n) (d := c) (xs := []) (fp := [w.heap.size]) (ys := xs) (by simp [Act.eval]) (by simp [Act.eval]) ⟨by simp, .inr ⟨_, _, rfl, rfl, heap_alloc_new w _, by omega, by omega, rfl, by simp⟩⟩ (HR.out.1.below ((Below.refl _ _).alloc (Nat.le_refl _) _)) HR.out.2 (by omega) (by omega) ?_
                 intro A' c' w' fp' h1 h2 h3
                 have HQ := Lib.hid (And.intro h1 (And.intro h2 h3))
                 clear h1 h2 h3)
    go_ret
    obtain ⟨h1, h2, h3⟩ := HQ.out
    refine ⟨A', c', fp', by simp, by simpa using h1, fun g hg => ?_, ((Below.refl w.heap.size w).alloc (Nat.le_refl _) _).trans (h3.below (by simp) (by simp))⟩
    rcases h2 g hg with h | h
    · simp at h; omega
    · simp at h; omega

theorem infoBrt : (Try.prog.info? 53).map (fun i => (i.zero, i.size, i.bytes)) = some (some (.agg #[.int .i64 0, .slice none 0 0]), 2, 32) := by kernel_rfl
set_option maxRecDepth 100000 in
set_option maxHeartbeats 1000000 in
theorem cloneBrt_any (A : Option Addr) (n c : Nat) (xs : List Value) (w : World) (hr : Rd w 2 A n xs) (h1 : ∀ u ∈ xs, u.oneCell' = true) (hc : A = none → n = 0 ∧ c = 0) (hl : n ≤ 100000000) :
    Calls Try.prog 86 #[.slice A n c] w (CloneS w 53 2 n xs) := by
  obtain ⟨i0, hi, hz0, hz1, hz2⟩ := info_parts infoBrt
  have hnil := fun (w : World) (a : Option Addr) (n c : Nat) => Lib.run_eql_slice_nil (P := Try.prog) w 24 53 a n c 0 0 Try.underlying24
  cases A with
  | none =>
    obtain ⟨rfl, rfl⟩ := hc rfl
    obtain rfl : xs = [] := List.eq_nil_of_length_eq_zero (by have := hr.1; omega)
    go_enter Try.func86, Try.ntmps86
    go_wp2_with fail
    go_ret
    exact ⟨none, 0, [], rfl, OwnS.nil _ _ _, by simp, Below.refl _ _⟩
  | some ad =>
    have HR := Lib.hid (And.intro hr h1)
    clear hr hc h1
    go_enter Try.func86, Try.ntmps86
    go_wp2_with (at_builtin
                 refine wpList_append_M rfl (.tmp 5) (.tmp 6) 24 rfl i0 _ 32 Try.underlying24 hi hz0 hz1 hz2 rfl (A := some ⟨w.heap.size, 0, none⟩) (n := 0) (c := 0) (B := some ad) (m := n) (d := c) (xs := []) (fp := [w.heap.size]) (ys := xs) (by simp [Act.eval]) (by simp [Act.eval]) ⟨by simp, .inr ⟨_, _, rfl, rfl, heap_alloc_new w _, by omega, by omega, rfl, by simp⟩⟩ (HR.out.1.below ((Below.refl _ _).alloc (Nat.le_refl _) _)) HR.out.2 (by omega) (by omega) ?_
                 intro A' c' w' fp' h1 h2 h3
                 have HQ := Lib.hid (And.intro h1 (And.intro h2 h3))
                 clear h1 h2 h3)
    go_ret
    obtain ⟨h1, h2, h3⟩ := HQ.out
    refine ⟨A', c', fp', by simp, by simpa using h1, fun g hg => ?_, ((Below.refl w.heap.size w).alloc (Nat.le_refl _) _).trans (h3.below (by simp) (by simp))⟩
    rcases h2 g hg with h | h
    · simp at h; omega
    · simp at h; omega

theorem infoCal : (Try.prog.info? 55).map (fun i => (i.zero, i.size, i.bytes)) = some (some (.agg #[.int .i64 0, .int .i64 0, .bool false, .int .i64 0, .int .i64 0, .int .i64 0]), 6, 48) := by kernel_rfl
set_option maxRecDepth 100000 in
set_option maxHeartbeats 1000000 in
theorem cloneCal_any (A : Option Addr) (n c : Nat) (xs : List Value) (w : World) (hr : Rd w 6 A n xs) (h1 : ∀ u ∈ xs, u.oneCell' = true) (hc : A = none → n = 0 ∧ c = 0) (hl : n ≤ 100000000) :
    Calls Try.prog 89 #[.slice A n c] w (CloneS w 55 6 n xs) := by
  obtain ⟨i0, hi, hz0, hz1, hz2⟩ := info_parts infoCal
  have hnil := fun (w : World) (a : Option Addr) (n c : Nat) => Lib.run_eql_slice_nil (P := Try.prog) w 28 55 a n c 0 0 Try.underlying28
  cases A with
  | none =>
    obtain ⟨rfl, rfl⟩ := hc rfl
    obtain rfl : xs = [] := List.eq_nil_of_length_eq_zero (by have := hr.1; omega)
    go_enter Try.func89, Try.ntmps89
    go_wp2_with fail
    go_ret
    exact ⟨none, 0, [], rfl, OwnS.nil _ _ _, by simp, Below.refl _ _⟩
  | some ad =>
    have HR := Lib.hid (And.intro hr h1)
    clear hr hc h1
    go_enter Try.func89, Try.ntmps89
    go_wp2_with (at_builtin
                 refine wpList_append_M rfl (.tmp 5) (.tmp 6) 28 rfl i0 _ 48 Try.underlying28 hi hz0 hz1 hz2 rfl (A := some ⟨w.heap.size, 0, none⟩) (n := 0) (c := 0) (B := some ad) (m := n) (d := c) (xs := []) (fp := [w.heap.size]) (ys := xs) (by simp [Act.eval]) (by simp [Act.eval]) ⟨by simp, .inr ⟨_, _, rfl, rfl, heap_alloc_new w _, by omega, by omega, rfl, by simp⟩⟩ (HR.out.1.below ((Below.refl _ _).alloc (Nat.le_refl _) _)) HR.out.2 (by omega) (by omega) ?_
                 intro A' c' w' fp' h1 h2 h3
                 have HQ := Lib.hid (And.intro h1 (And.intro h2 h3))
                 clear h1 h2 h3)
    go_ret
    obtain ⟨h1, h2, h3⟩ := HQ.out
    refine ⟨A', c', fp', by simp, by simpa using h1, fun g hg => ?_, ((Below.refl w.heap.size w).alloc (Nat.le_refl _) _).trans (h3.below (by simp) (by simp))⟩
    rcases h2 g hg with h | h
    · simp at h; omega
    · simp at h; omega

theorem infoSwp : (Try.prog.info? 126).map (fun i => (i.zero, i.size, i.bytes)) = some (some (.agg #[.int .i64 0, .int .i64 0, .int .i64 0]), 3, 24) := by kernel_rfl
set_option maxRecDepth 100000 in
set_option maxHeartbeats 1000000 in
theorem cloneSwp_any (A : Option Addr) (n c : Nat) (xs : List Value) (w : World) (hr : Rd w 3 A n xs) (h1 : ∀ u ∈ xs, u.oneCell' = true) (hc : A = none → n = 0 ∧ c = 0) (hl : n ≤ 100000000) :
    Calls Try.prog 90 #[.slice A n c] w (CloneS w 126 3 n xs) := by
  obtain ⟨i0, hi, hz0, hz1, hz2⟩ := info_parts infoSwp
  have hnil := fun (w : World) (a : Option Addr) (n c : Nat) => Lib.run_eql_slice_nil (P := Try.prog) w 29 126 a n c 0 0 Try.underlying29
  cases A with
  | none =>
    obtain ⟨rfl, rfl⟩ := hc rfl
    obtain rfl : xs = [] := List.eq_nil_of_length_eq_zero (by have := hr.1; omega)
    go_enter Try.func90, Try.ntmps90
    go_wp2_with fail
    go_ret
    exact ⟨none, 0, [], rfl, OwnS.nil _ _ _, by simp, Below.refl _ _⟩
  | some ad =>
    have HR := Lib.hid (And.intro hr h1)
    clear hr hc h1
    go_enter Try.func90, Try.ntmps90
    go_wp2_with (at_builtin
                 refine wpList_append_M rfl (.tmp 5) (.tmp 6) 29 rfl i0 _ 24 Try.underlying29 hi hz0 hz1 hz2 rfl (A := some ⟨w.heap.size, 0, none⟩) (n := 0) (c := 0) (B := some ad) (m := n) (d := c) (xs := []) (fp := [w.heap.size]) (ys := xs) (by simp [Act.eval]) (by simp [Act.eval]) ⟨by simp, .inr ⟨_, _, rfl, rfl, heap_alloc_new w _, by omega, by omega, rfl, by simp⟩⟩ (HR.out.1.below ((Below.refl _ _).alloc (Nat.le_refl _) _)) HR.out.2 (by omega) (by omega) ?_
                 intro A' c' w' fp' h1 h2 h3
                 have HQ := Lib.hid (And.intro h1 (And.intro h2 h3))
                 clear h1 h2 h3)
    go_ret
    obtain ⟨h1, h2, h3⟩ := HQ.out
    refine ⟨A', c', fp', by simp, by simpa using h1, fun g hg => ?_, ((Below.refl w.heap.size w).alloc (Nat.le_refl _) _).trans (h3.below (by simp) (by simp))⟩
    rcases h2 g hg with h | h
    · simp at h; omega
    · simp at h; omega

theorem infoPlc : (Try.prog.info? 109).map (fun i => (i.zero, i.size, i.bytes)) = some (some (.agg #[.int .i64 0, .int .i64 0]), 2, 16) := by kernel_rfl
set_option maxRecDepth 100000 in
set_option maxHeartbeats 1000000 in
theorem clonePlc_any (A : Option Addr) (n c : Nat) (xs : List Value) (w : World) (hr : Rd w 2 A n xs) (h1 : ∀ u ∈ xs, u.oneCell' = true) (hc : A = none → n = 0 ∧ c = 0) (hl : n ≤ 100000000) :
    Calls Try.prog 132 #[.slice A n c] w (CloneS w 109 2 n xs) := by
  obtain ⟨i0, hi, hz0, hz1, hz2⟩ := info_parts infoPlc
  have hnil := fun (w : World) (a : Option Addr) (n c : Nat) => Lib.run_eql_slice_nil (P := Try.prog) w 103 109 a n c 0 0 Try.underlying103
  cases A with
  | none =>
    obtain ⟨rfl, rfl⟩ := hc rfl
    obtain rfl : xs = [] := List.eq_nil_of_length_eq_zero (by have := hr.1; omega)
    go_enter Try.func132, Try.ntmps132
    go_wp2_with fail
    go_ret
    exact ⟨none, 0, [], rfl, OwnS.nil _ _ _, by simp, Below.refl _ _⟩
  | some ad =>
    have HR := Lib.hid (And.intro hr h1)
    clear hr hc h1
    go_enter Try.func132, Try.ntmps132
    go_wp2_with (at_builtin
                 refine wpList_append_M rfl (.tmp 5) (.tmp 6) 103 rfl i0 _ 16 Try.underlying103 hi hz0 hz1 hz2 rfl (A := some ⟨w.heap.size, 0, none⟩) (n := 0) (c := 0) (B := some ad) (m := n) (d := c) (xs := []) (fp := [w.heap.size]) (ys := xs) (by simp [Act.eval]) (by simp [Act.eval]) ⟨by simp, .inr ⟨_, _, rfl, rfl, heap_alloc_new w _, by omega, by omega, rfl, by simp⟩⟩ (HR.out.1.below ((Below.refl _ _).alloc (Nat.le_refl _) _)) HR.out.2 (by omega) (by omega) ?_
                 intro A' c' w' fp' h1 h2 h3
                 have HQ := Lib.hid (And.intro h1 (And.intro h2 h3))
                 clear h1 h2 h3)
    go_ret
    obtain ⟨h1, h2, h3⟩ := HQ.out
    refine ⟨A', c', fp', by simp, by simpa using h1, fun g hg => ?_, ((Below.refl w.heap.size w).alloc (Nat.le_refl _) _).trans (h3.below (by simp) (by simp))⟩
    rcases h2 g hg with h | h
    · simp at h; omega
    · simp at h; omega
end Go.Proofs.Ythmldeningpjbaa
