/- Example, winter, awake -/
import Derived.Test.YtfmhlnfcbbpfeaaEqual
namespace Go.Proofs.Ytfmhlnfcbbpfeaa
open Go Go.RowKit Sp

def exP : Pol := ⟨[⟨0, 0, 0, 0⟩, ⟨1, 2000, 100, 60⟩, ⟨3, 2000, 200, 150⟩], 2, 3, 1, 2⟩
def exD : List Int := [120, 130, 210, 220, 90, 50, 40, 30, 20]

theorem rd_lit (w : World) (size n : Nat) (cs : List Value) (t : TypeId) (h : cs.length = n * size) : Rd (w.alloc (.cells cs.toArray t)) size (some ⟨w.heap.size, 0, none⟩) n cs :=
  ⟨h, fun _ => ⟨_, 0, rfl, by simp, fun j u hu => by rw [Nat.zero_add, World.cell?_alloc_new]; simpa using hu⟩⟩

theorem Example_any (w : World) :
    Calls Try.prog 79 #[] w fun e w' => ∃ b, e = .returned (.agg #[.slice (some ⟨b, 0, none⟩) 3 3, .int .i64 2, .int .i64 3, .int .i64 1, .int .i64 2]) ∧ PolV w' (some ⟨b, 0, none⟩) 3 exP ∧ Below w.heap.size w w' := by
  go_enter Try.func79, Try.ntmps79
  go_wp2_with fail
  have hb : Below w.heap.size w ((w.alloc (.cells #[.slice (some ⟨w.heap.size + 1, 0, none⟩) 3 3, .int .i64 2, .int .i64 3, .int .i64 1, .int .i64 2] 25)).alloc (.cells (stcs exP.steps).toArray 74)) := ((Below.refl _ _).alloc (Nat.le_refl _) _).alloc (by simp) _
  have hr := rd_lit (w.alloc (.cells #[.slice (some ⟨w.heap.size + 1, 0, none⟩) 3 3, .int .i64 2, .int .i64 3, .int .i64 1, .int .i64 2] 25)) 4 3 (stcs exP.steps) 74 rfl
  rw [World.size_alloc] at hr
  have k : ∀ j u, (#[Value.slice (some ⟨w.heap.size + 1, 0, none⟩) 3 3, .int .i64 2, .int .i64 3, .int .i64 1, .int .i64 2] : Array Value)[j]? = some u → ((w.alloc (.cells #[.slice (some ⟨w.heap.size + 1, 0, none⟩) 3 3, .int .i64 2, .int .i64 3, .int .i64 1, .int .i64 2] 25)).alloc (.cells #[.int .i64 0, .int .i64 0, .int .i64 0, .int .i64 0, .int .i64 1, .int .i64 2000, .int .i64 100, .int .i64 60, .int .i64 3, .int .i64 2000, .int .i64 200, .int .i64 150] 74)).cell? ⟨w.heap.size, j, none⟩ = some u := fun j u hu => by
    rw [World.cell?_alloc_lt _ _ _ (by simp), World.cell?_alloc_new]; exact hu
  have k0 := k 0 _ rfl
  have k1 := k 1 _ rfl
  have k2 := k 2 _ rfl
  have k3 := k 3 _ rfl
  have k4 := k 4 _ rfl
  refine bodyPost_ret (v := .agg #[.slice (some ⟨w.heap.size + 1, 0, none⟩) 3 3, .int .i64 2, .int .i64 3, .int .i64 1, .int .i64 2]) (by simp [results, Try.results79, go_sem, k0, k1, k2, k3, k4]) rfl ?_
  exact ⟨_, rfl, ⟨by simp [exP], by simp [maxLen], hr⟩, hb⟩

theorem winter_any (w : World) :
    Calls Try.prog 80 #[] w fun e w' => ∃ b, e = .returned (.slice (some ⟨b, 0, none⟩) 9 9) ∧ Rd w' 1 (some ⟨b, 0, none⟩) 9 (ints exD) ∧ Below w.heap.size w w' := by
  go_enter Try.func80, Try.ntmps80
  go_wp2_with fail
  go_ret
  exact ⟨_, rfl, rd_lit w 1 9 (ints exD) 3 rfl, (Below.refl _ _).alloc (Nat.le_refl _) _⟩
end Go.Proofs.Ytfmhlnfcbbpfeaa
