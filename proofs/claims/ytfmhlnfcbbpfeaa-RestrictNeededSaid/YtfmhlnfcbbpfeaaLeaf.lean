/- The leaves of layer 8: within, the closures on steps, upTo, vessels. -/
import Derived.Test.YtfmhlnfcbbpfeaaProg
import Derived.Test.YtfmhlnfcbbpfeaaBase
import Derived.Test.YtfmhlnfcbbpfeaaSpec
import Derived.Test.YtfmhlnfcbbpfeaaSpecB
namespace Go.Proofs.Ytfmhlnfcbbpfeaa
open Go Go.RowKit Sp

theorem within_any (n lo hi : Int) (w : World) :
    Calls Try.prog 76 #[.int .i64 n, .int .i64 lo, .int .i64 hi] w fun e w' => e = .returned (.bool (within n lo hi)) ∧ w = w' := by
  go_enter Try.func76, Try.ntmps76
  go_wp2
  all_goals (go_ret; refine ⟨?_, rfl⟩; simp [within]; try omega)

def stc (s : Stp) : List Value := [.int .i64 s.cls, .int .i64 s.ton, .int .i64 s.up, .int .i64 s.dn]
def stcs (l : List Stp) : List Value := l.flatMap stc

theorem stcs_get {l : List Stp} {k : Nat} (hk : k < l.length) : (stcs l)[k*4]? = some (.int .i64 l[k].cls) ∧ (stcs l)[k*4+1]? = some (.int .i64 l[k].ton) ∧ (stcs l)[k*4+2]? = some (.int .i64 l[k].up) ∧ (stcs l)[k*4+3]? = some (.int .i64 l[k].dn) := by
  induction l generalizing k with
  | nil => simp at hk
  | cons s l ih =>
    cases k with
    | zero => simp [stcs, stc]
    | succ k =>
      have h4 : ∀ j, (stcs (s :: l))[4 + j]? = (stcs l)[j]? := fun j => by
        simp only [stcs, List.flatMap_cons, stc]
        rw [List.getElem?_append_right (by simp)]
        simp
      have e : ∀ j, (k+1)*4 + j = 4 + (k*4 + j) := fun j => by omega
      have e0 : (k+1)*4 = 4 + k*4 := by omega
      have hk' : k < l.length := by simpa using hk
      rw [e, e, e, e0, h4, h4, h4, h4]
      simpa using ih hk'

/-- the policy p lies in block pb -/
def PolAt (w : World) (pb : Nat) (p : Pol) : Prop := ∃ A c, w.heap[pb]? = some (.cells #[.slice A p.steps.length c, .int .i64 p.hold, .int .i64 p.calm, .int .i64 p.notice, .int .i64 p.grace] 25 (0, 0)) ∧ p.steps.length ≤ c ∧ c ≤ maxLen ∧ Rd w 4 A p.steps.length (stcs p.steps)

theorem up_any (s : Stp) (w : World) :
    Calls Try.prog 147 #[.agg #[.int .i64 s.cls, .int .i64 s.ton, .int .i64 s.up, .int .i64 s.dn]] w fun e w' => e = .returned (.int .i64 s.up) ∧ Below w.heap.size w w' := by
  go_enter Try.func147, Try.ntmps147
  go_wp2
  go_ret
  exact ⟨rfl, (Below.refl _ _).alloc (Nat.le_refl _) _⟩

theorem dn_any (s : Stp) (w : World) :
    Calls Try.prog 132 #[.agg #[.int .i64 s.cls, .int .i64 s.ton, .int .i64 s.up, .int .i64 s.dn]] w fun e w' => e = .returned (.int .i64 s.dn) ∧ Below w.heap.size w w' := by
  go_enter Try.func132, Try.ntmps132
  go_wp2
  go_ret
  exact ⟨rfl, (Below.refl _ _).alloc (Nat.le_refl _) _⟩

theorem upToN_succ (l : List Int) (sev : Int) (k : Nat) : upToN l sev (k + 1) = if l.getD k 0 ≤ sev then (k : Int) else upToN l sev k := rfl
set_option maxHeartbeats 400000 in
theorem upToUp_any (pb : Nat) (p : Pol) (sev : Int) (w : World) (hp : PolAt w pb p) :
    Calls Try.prog 131 #[.agg #[.pointer (some ⟨pb, 0, none⟩)], .int .i64 sev, .func (.func 147) #[] #[]] w fun e w' => e = .returned (.int .i64 (upTo (p.steps.map (·.up)) sev)) ∧ Below w.heap.size w w' := by
  obtain ⟨A, c, hh, hnc, hcm, hr⟩ := hp
  unfold maxLen at hcm
  have hlt : pb < w.heap.size := (Array.getElem?_eq_some_iff.1 hh).1
  have h0 : w.cell? ⟨pb, 0, none⟩ = some (.slice A p.steps.length c) := cell_of_row w pb 0 _ _ _ hh
  clear hh
  go_enter Try.func131, Try.ntmps131
  go_wp2
  go_loopw [7, 16] (fun r i wr => ∃ k : Nat, k ≤ p.steps.length ∧ i = .int .i64 k ∧ r = .int .i64 (upToN (p.steps.map (·.up)) sev k) ∧ Below w.heap.size w wr)
    (fun _ i _ => p.steps.length - (intOf i).toNat)
  case atStart => exact ⟨0, Nat.zero_le _, rfl, rfl, (Below.refl _ _).alloc (Nat.le_refl _) _⟩
  case round =>
    obtain ⟨k, hk, rfl, rfl, hB⟩ := hrel
    by_cases hlt : k < p.steps.length
    · obtain ⟨b, off, rfl, hb, hc⟩ := hr.2 (by omega)
      obtain ⟨s0, s1, s2, s3⟩ := stcs_get hlt
      have bc := (bcell hB).1
      have c0 := (bc b (off + k*4) hb).trans (hc _ _ s0)
      have c1 := (bc b (off + k*4 + 1) hb).trans (hc _ _ s1)
      have c2 := (bc b (off + k*4 + 2) hb).trans (hc _ _ s2)
      have c3 := (bc b (off + k*4 + 3) hb).trans (hc _ _ s3)
      clear hc s0 s1 s2 s3 bc
      go_wp2_with (go_at_call 147; refine (up_any _ _).mono ?_; rintro e w' ⟨rfl, hB1⟩)
      all_goals
        have hB2 : Below w.heap.size w w' := (((hB.alloc hB.size _)).trans (hB1.mono (by have := hB.size; simp; omega)))
        have hsz := hB.size
        go_roundw
        case rel => exact ⟨k + 1, by omega, by go_num, by rw [upToN_succ]; simp [*] ; try omega, hB2⟩
        case measure => simp [intOf]; omega
    · obtain rfl : k = p.steps.length := by omega
      go_wp2
      go_ret
      exact ⟨by simp [upTo], hB⟩
set_option maxHeartbeats 400000 in
theorem upToDn_any (pb : Nat) (p : Pol) (sev : Int) (w : World) (hp : PolAt w pb p) :
    Calls Try.prog 131 #[.agg #[.pointer (some ⟨pb, 0, none⟩)], .int .i64 sev, .func (.func 132) #[] #[]] w fun e w' => e = .returned (.int .i64 (upTo (p.steps.map (·.dn)) sev)) ∧ Below w.heap.size w w' := by
  obtain ⟨A, c, hh, hnc, hcm, hr⟩ := hp
  unfold maxLen at hcm
  have hlt : pb < w.heap.size := (Array.getElem?_eq_some_iff.1 hh).1
  have h0 : w.cell? ⟨pb, 0, none⟩ = some (.slice A p.steps.length c) := cell_of_row w pb 0 _ _ _ hh
  clear hh
  go_enter Try.func131, Try.ntmps131
  go_wp2
  go_loopw [7, 16] (fun r i wr => ∃ k : Nat, k ≤ p.steps.length ∧ i = .int .i64 k ∧ r = .int .i64 (upToN (p.steps.map (·.dn)) sev k) ∧ Below w.heap.size w wr)
    (fun _ i _ => p.steps.length - (intOf i).toNat)
  case atStart => exact ⟨0, Nat.zero_le _, rfl, rfl, (Below.refl _ _).alloc (Nat.le_refl _) _⟩
  case round =>
    obtain ⟨k, hk, rfl, rfl, hB⟩ := hrel
    by_cases hlt : k < p.steps.length
    · obtain ⟨b, off, rfl, hb, hc⟩ := hr.2 (by omega)
      obtain ⟨s0, s1, s2, s3⟩ := stcs_get hlt
      have bc := (bcell hB).1
      have c0 := (bc b (off + k*4) hb).trans (hc _ _ s0)
      have c1 := (bc b (off + k*4 + 1) hb).trans (hc _ _ s1)
      have c2 := (bc b (off + k*4 + 2) hb).trans (hc _ _ s2)
      have c3 := (bc b (off + k*4 + 3) hb).trans (hc _ _ s3)
      clear hc s0 s1 s2 s3 bc
      go_wp2_with (go_at_call 132; refine (dn_any _ _).mono ?_; rintro e w' ⟨rfl, hB1⟩)
      all_goals
        have hB2 : Below w.heap.size w w' := (((hB.alloc hB.size _)).trans (hB1.mono (by have := hB.size; simp; omega)))
        have hsz := hB.size
        go_roundw
        case rel => exact ⟨k + 1, by omega, by go_num, by rw [upToN_succ]; simp [*] ; try omega, hB2⟩
        case measure => simp [intOf]; omega
    · obtain rfl : k = p.steps.length := by omega
      go_wp2
      go_ret
      exact ⟨by simp [upTo], hB⟩

def veCells (v : Ves) : List Value := [.int .i64 v.cls, .int .i64 v.ton, .bool v.esc]

theorem right_any (v : Ves) (w : World) :
    Calls Try.prog 75 #[.agg #[.int .i64 v.cls, .int .i64 v.ton, .bool v.esc]] w fun e w' => e = .returned (.bool (vright v)) ∧ Below w.heap.size w w' := by
  go_enter Try.func75, Try.ntmps75
  go_wp2_with (go_at_call 76; refine (within_any _ _ _ _).mono ?_; rintro e w' ⟨rfl, rfl⟩)
  all_goals (go_ret; exact ⟨by simp_all [vright], (Below.refl _ _).alloc (Nat.le_refl _) _⟩)

theorem fulfils_any (v : Ves) (s : Stp) (w : World) (h1 : -1000000000 ≤ v.cls ∧ v.cls ≤ 1000000000) :
    Calls Try.prog 127 #[.agg #[.int .i64 v.cls, .int .i64 v.ton, .bool v.esc], .agg #[.int .i64 s.cls, .int .i64 s.ton, .int .i64 s.up, .int .i64 s.dn]] w fun e w' => e = .returned (.bool (fulfils v s)) ∧ Below w.heap.size w w' := by
  obtain ⟨h1, h2⟩ := h1
  cases hv : v.esc
  · go_enter Try.func127, Try.ntmps127
    go_wp2
    all_goals (go_ret; refine ⟨by simp_all [fulfils]; try omega, ?_⟩; exact ((Below.refl _ _).alloc (Nat.le_refl _) _).alloc (by simp) _)
  · go_enter Try.func127, Try.ntmps127
    go_wp2
    all_goals (go_ret; refine ⟨by simp_all [fulfils]; try omega, ?_⟩; exact ((Below.refl _ _).alloc (Nat.le_refl _) _).alloc (by simp) _)
end Go.Proofs.Ytfmhlnfcbbpfeaa
