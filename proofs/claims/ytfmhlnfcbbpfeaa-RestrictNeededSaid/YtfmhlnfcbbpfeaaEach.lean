/- restrict.each over a new window's push: the least (or greatest) of the last numbers, at each number. -/
import Derived.Test.YtfmhlnfcbbpfeaaPush
import Derived.Test.YtfmhlnfcbbpfeaaSpecB
namespace Go.Proofs.Ytfmhlnfcbbpfeaa
open Go Go.RowKit Sp

def ints (l : List Int) : List Value := l.map (Value.int .i64)

theorem ints_get {l : List Int} {k : Nat} (h : k < l.length) : (ints l)[k]? = some (.int .i64 (l.getD k 0)) := by simp [ints, h]

/-- what each(days, w.push) leaves -/
def EachPost (w : World) (pb : Nat) (out : List Int) (e : Ending) (w' : World) : Prop :=
  ∃ A c q, e = .returned (.slice A out.length c) ∧ OwnA w' 3 A out.length c (ints out) q ∧ (∀ g ∈ q, w.heap.size ≤ g) ∧ Keep [pb] w w'

/-- between the rounds -/
structure EachInv (w wr : World) (pb : Nat) (wide : Int) (gr : Bool) (xs : List Int) (k : Nat) (A : Option Addr) (c : Nat) (q fp : List Nat) : Prop where
  own : OwnA wr 3 A k c (ints (slideN wide gr xs k)) q
  win : Win wr pb wide (k : Int) gr (dq wide gr xs k) fp
  keep : Keep [pb] w wr
  qn : ∀ g ∈ q, w.heap.size ≤ g
  fn : ∀ g ∈ fp, g = pb ∨ w.heap.size ≤ g
  dis : ∀ g ∈ q, g ∉ fp

theorem Win.lt {w : World} {pb : Nat} {wide at_ : Int} {gr : Bool} {D : List (Int × Int)} {fp : List Nat} (h : Win w pb wide at_ gr D fp) : ∀ g ∈ fp, g < w.heap.size := by
  obtain ⟨A1, c1, A2, c2, fp1, fp2, rfl, hS⟩ := h
  intro g hg
  rcases List.mem_cons.1 hg with rfl | hg
  · exact heap_lt hS.cells
  · rcases List.mem_append.1 hg with hg | hg
    · exact hS.o1.lt g hg
    · exact hS.o2.lt g hg

theorem Win.keepS {w w' : World} {pb : Nat} {wide at_ : Int} {gr : Bool} {D : List (Int × Int)} {fp S : List Nat} (h : Win w pb wide at_ gr D fp) (hk : Keep S w w') (hd : ∀ g ∈ fp, g ∉ S) : Win w' pb wide at_ gr D fp := by
  have hlt := h.lt
  obtain ⟨A1, c1, A2, c2, fp1, fp2, hfp, hS⟩ := h
  refine ⟨A1, c1, A2, c2, fp1, fp2, hfp, Keep.refl _ _, ?_, hS.o1.keepS hk fun g hg => hd g (by rw [hfp]; simp [hg]), hS.o2.keepS hk fun g hg => hd g (by rw [hfp]; simp [hg]), hS.d12, hS.p1, hS.p2, fun g hg => .inl (by rw [hfp]; simp [hg]), fun g hg => .inl (by rw [hfp]; simp [hg])⟩
  exact (hk.block pb (heap_lt hS.cells) (hd pb (by rw [hfp]; simp))).trans hS.cells

theorem EachInv.step {w wr w1 w2 : World} {pb : Nat} {wide : Int} {gr : Bool} {xs : List Int} {k : Nat} {A : Option Addr} {c : Nat} {q fp fp1 : List Nat} (h : EachInv w wr pb wide gr xs k A c q fp)
    (hw : Win w1 pb wide ((k : Int) + 1) gr (dq wide gr xs (k + 1)) fp1) (hk : Keep fp wr w1) (hf : ∀ g ∈ fp1, g ∈ fp ∨ wr.heap.size ≤ g) {o : Obj} {g off c' : Nat}
    (ho : OwnA w2 3 (some ⟨g, off, none⟩) (k + 1) c' (ints (slideN wide gr xs k) ++ [.int .i64 (headV (dq wide gr xs (k + 1)))]) [g]) (hg : g ∈ q ∨ (w1.alloc o).heap.size = g) (hk2 : Keep q (w1.alloc o) w2) :
    EachInv w w2 pb wide gr xs (k + 1) (some ⟨g, off, none⟩) c' [g] fp1 := by
  have s1 := h.keep.size
  have s2 := hk.size
  have ha := hk2.size
  simp only [World.size_alloc] at hg ha
  have hq1 : ∀ x ∈ q, x ∉ fp1 := fun x hx hm => by
    rcases hf x hm with h1 | h1
    · exact h.dis x hx h1
    · have := h.own.lt x hx; omega
  refine ⟨?_, ?_, ?_, ?_, ?_, ?_⟩
  · rw [slideN_succ]
    simpa [ints] using ho
  · have hw1 : Win (w1.alloc o) pb wide ((k : Int) + 1) gr (dq wide gr xs (k + 1)) fp1 := hw.keepS ((Keep.refl [] w1).alloc o) (by simp)
    exact hw1.keepS hk2 (fun x hx hm => hq1 x hm hx)
  · have h1 : Keep [pb] w w1 := h.keep.trans hk (fun x hx => by
      rcases h.fn x hx with rfl | h2
      · exact .inl (by simp)
      · exact .inr h2)
    exact (h1.alloc o).trans hk2 (fun x hx => .inr (h.qn x hx))
  · intro x hx
    rw [List.mem_singleton.1 hx]
    rcases hg with hg | hg
    · exact h.qn _ hg
    · omega
  · intro x hx
    rcases hf x hx with h1 | h1
    · exact h.fn x h1
    · right; omega
  · intro x hx hm
    rw [List.mem_singleton.1 hx] at hm
    rcases hg with hg | hg
    · exact hq1 _ hg hm
    · have := hw.lt _ hm; omega

set_option maxHeartbeats 1000000 in
theorem each_any (pb : Nat) (wide : Int) (gr : Bool) (A : Option Addr) (c : Nat) (xs : List Int) (w : World) (hwin : Win w pb wide 0 gr [] [pb]) (hw1 : 1 ≤ wide) (hw2 : wide ≤ 1000)
    (hr : Rd w 1 A xs.length (ints xs)) (hA : 0 < xs.length → ∀ b off, A = some ⟨b, off, none⟩ → b ≠ pb) (hl : xs.length ≤ 1000000) :
    Calls Try.prog 129 #[.slice A xs.length c, .func (.func 130) #[.pointer (some ⟨pb, 0, none⟩)] #[]] w (EachPost w pb (slide wide gr xs)) := by
  obtain ⟨i0, hi, hz0, hz1, hz2⟩ := info_parts info_int
  go_enter Try.func129, Try.ntmps129
  go_wp2_with fail
  go_loopw [5, 10] (fun v i wr => ∃ (k : Nat) (Ao : Option Addr) (co : Nat) (q f : List Nat), k ≤ xs.length ∧ i = .int .i64 k ∧ v = .slice Ao k co ∧ EachInv w wr pb wide gr xs k Ao co q f)
    (fun _ i _ => xs.length - (intOf i).toNat)
  case atStart => exact ⟨0, none, 0, [], [pb], Nat.zero_le _, rfl, rfl, ⟨OwnA.nil _ _, hwin, Keep.refl _ _, by simp, by simp, by simp⟩⟩
  case round =>
    obtain ⟨k, Ao, co, q, f, hk, rfl, rfl, hinv⟩ := hrel
    by_cases hlt : k < xs.length
    · obtain ⟨b, off, rfl, hb, hc⟩ := hr.2 (by omega)
      have hbp := hA (by omega) b off rfl
      have c0 : wr.cell? ⟨b, off + k, none⟩ = some (.int .i64 (xs.getD k 0)) := by
        rw [← hc k (.int .i64 (xs.getD k 0)) (by simp [ints, hlt])]
        exact World.cell?_of_block (w := w) (hinv.keep.block b hb (by simpa using hbp))
      obtain ⟨x, hx⟩ : ∃ x, x = xs.getD k 0 := ⟨_, rfl⟩
      rw [← hx] at c0
      have HX := Lib.hid hx
      have HI := Lib.hid hinv
      have hdl := dq_length wide gr xs k
      clear hc hx hbp hA hwin hinv hr
      go_wp2_with (first
        | (go_at_call 130; refine (push_any pb (dq wide gr xs k) f wide k x gr wr HI.out.win hw1 hw2 (by omega) (by omega) (by omega)).mono ?_; rintro e w1 ⟨f1, rfl, hwin1, hk1, hf1⟩; have HP := Lib.hid (And.intro hwin1 (And.intro hk1 hf1)); clear hwin1 hk1 hf1)
        | (at_builtin
           refine wpList_append_A rfl (.tmp 14) (.tmp 18) 27 rfl i0 _ 8 Try.underlying27 hi hz0 hz1 hz2 rfl (A := Ao) (n := k) (c := co) (xs := ints (slideN wide gr xs k)) (fp := q) (by simp [Act.eval]) _ (by simp [Act.eval]; rfl) (.int .i64 (headV (pushD wide k gr (dq wide gr xs k) x))) ((HI.out.own.keepS HP.out.2.1 HI.out.dis).alloc _) (by simp) rfl (by omega) (by omega) ?_
           intro g off' c' w2 h1 h2 h3 h4
           have HQ := Lib.hid (And.intro h1 (And.intro h2 h4))
           clear h1 h2 h3 h4))
      go_roundw
      case rel =>
        obtain ⟨h1, h2, h4⟩ := HQ.out
        obtain ⟨hwin1, hk1, hf1⟩ := HP.out
        rw [HX.out] at h1 hwin1
        exact ⟨k + 1, _, _, _, _, by omega, by go_num, rfl, HI.out.step hwin1 hk1 hf1 h1 h2 h4⟩
      case measure => simp [intOf]; omega
    · obtain rfl : k = xs.length := by omega
      go_wp2_with fail
      go_ret
      have hs : (slide wide gr xs).length = xs.length := by simp [slide, slideN]
      exact ⟨Ao, co, q, by rw [hs]; rfl, by rw [hs]; exact hinv.own, hinv.qn, hinv.keep⟩
end Go.Proofs.Ytfmhlnfcbbpfeaa
