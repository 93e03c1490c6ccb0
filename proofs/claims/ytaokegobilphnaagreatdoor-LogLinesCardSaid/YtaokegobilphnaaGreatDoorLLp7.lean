/- reference's one, Quote -/
import Derived.Test.YtaokegobilphnaaGreatDoorLLp4
import Derived.BigQuiet
import Derived.Laws.IdiomStrings
import Derived.Maps.Keyed
import Derived.MapKept
import Derived.Test.YtaokegobilphnaaGreatDoorLLp3
import Derived.Test.YtaokegobilphnaaGreatDoorLLp6
import Derived.Deep.RegionHeld3
set_option linter.unusedVariables false
set_option linter.unusedSimpArgs false
namespace Go.Proofs.YtaokegobilphnaaGreatDoor
open Go Go.RowKit Go.Shelf Go.Proofs Sp Lg
set_option linter.unusedVariables false
set_option linter.unusedSimpArgs false

theorem hex_cut {d : Nat} (h : d < 16) : (⟨#[48, 49, 50, 51, 52, 53, 54, 55, 56, 57, 97, 98, 99, 100, 101, 102]⟩ : ByteArray).extract d (d + 1) = bs [hexd d] := by
  have : ∀ d : Fin 16, (⟨#[48, 49, 50, 51, 52, 53, 54, 55, 56, 57, 97, 98, 99, 100, 101, 102]⟩ : ByteArray).extract d.1 (d.1 + 1) = bs [hexd d.1] := by decide
  exact this ⟨d, h⟩
set_option maxRecDepth 100000 in
set_option maxHeartbeats 4000000 in
theorem rOne_any (b : UInt8) (w : World) :
    Calls Tryz.prog 82 #[.int .u8 b.toNat] w fun e w' => e = .returned (.string (bs (one b))) ∧ Below w.heap.size w w' := by
  obtain ⟨n, hn⟩ : ∃ n, n = b.toNat := ⟨_, rfl⟩
  have hb : b.toNat < 256 := b.toNat_lt
  obtain ⟨o, ho⟩ : ∃ o, o = one b := ⟨_, rfl⟩
  have h256 : n < 256 := by omega
  have eqs : ∀ c : UInt8, (b = c) ↔ (n = c.toNat) := fun c => by rw [hn]; exact ⟨fun h => by rw [h], fun h => UInt8.toNat_inj.1 h⟩
  unfold one at ho
  rw [← hn] at ho
  simp only [eqs] at ho
  rw [← hn, show bs (one b) = bs o from by rw [ho]; unfold one; rw [← hn]; simp only [eqs]]
  have HO := Lib.hid (And.intro ho hn)
  clear ho hn eqs hb
  by_cases h1 : n = 10
  · go_enter Tryz.func82, Tryz.ntmps82
    go_wp2_with fail
    go_ret
    exact ⟨by rw [HO.out.1]; simp [h1], Below.refl _ _⟩
  by_cases h2 : n = 34
  · go_enter Tryz.func82, Tryz.ntmps82
    go_wp2_with fail
    go_ret
    exact ⟨by rw [HO.out.1]; simp [h2], Below.refl _ _⟩
  by_cases h3 : n = 42
  · go_enter Tryz.func82, Tryz.ntmps82
    go_wp2_with fail
    go_ret
    exact ⟨by rw [HO.out.1]; simp [h3], Below.refl _ _⟩
  by_cases h4 : n = 92
  · go_enter Tryz.func82, Tryz.ntmps82
    go_wp2_with fail
    go_ret
    exact ⟨by rw [HO.out.1]; simp [h4], Below.refl _ _⟩
  have f1 : ((n : Int) == 10) = false := beq_eq_false_iff_ne.2 (by omega)
  have f2 : ((n : Int) == 34) = false := beq_eq_false_iff_ne.2 (by omega)
  have f3 : ((n : Int) == 42) = false := beq_eq_false_iff_ne.2 (by omega)
  have f4 : ((n : Int) == 92) = false := beq_eq_false_iff_ne.2 (by omega)
  by_cases h5 : n < 32 ∨ 126 < n
  · have f5 : (decide ((n : Int) < 32) || decide (126 < (n : Int))) = true := by simp; omega
    obtain ⟨hi, hhi⟩ : ∃ h, h = n / 16 := ⟨_, rfl⟩
    obtain ⟨lo, hlo⟩ : ∃ h, h = n % 16 := ⟨_, rfl⟩
    have e1 : (n : Int).tdiv 16 = (hi : Int) := by rw [hhi, Int.tdiv_eq_ediv_of_nonneg (by omega)]; omega
    have e2 : (n : Int).tmod 16 = (lo : Int) := by rw [hlo, Int.tmod_eq_emod_of_nonneg (by omega)]; omega
    have b1 : hi < 16 := by omega
    have b2 : lo < 16 := by omega
    have k1 := hex_cut b1
    have k2 := hex_cut b2
    have HI := Lib.hid (And.intro hhi hlo)
    clear hhi hlo
    go_enter Tryz.func82, Tryz.ntmps82
    rcases Classical.em (n < 32) with h6 | h6
    · go_wp2_with fail
      go_quiet (fail)
      go_wp2_with fail
      go_ret
      refine ⟨?_, ⟨rfl, rfl, rfl, Nat.le_refl _, fun _ _ => rfl⟩⟩
      rw [show (⟨#[92, 120]⟩ : ByteArray) = bs [92, 120] from rfl, bs_app, bs_app, HO.out.1, HI.out.1, HI.out.2]
      simp [h1, h2, h3, h4, h5]
    · have h7 : 126 < n := by omega
      go_wp2_with fail
      go_quiet (fail)
      go_wp2_with fail
      go_ret
      refine ⟨?_, ⟨rfl, rfl, rfl, Nat.le_refl _, fun _ _ => rfl⟩⟩
      rw [show (⟨#[92, 120]⟩ : ByteArray) = bs [92, 120] from rfl, bs_app, bs_app, HO.out.1, HI.out.1, HI.out.2]
      simp [h1, h2, h3, h4, h5]
  · have HCV : ∀ j (hj : j < [b].length), (w.alloc (.cells #[.int .u8 n] 5)).cell? ((⟨w.heap.size, 0, none⟩ : Addr).add j) = some (.int .u8 ([b][j].toNat : Int)) := by
      intro j hj
      obtain rfl : j = 0 := by simp at hj; omega
      rw [show (⟨w.heap.size, 0, none⟩ : Addr).add 0 = ⟨w.heap.size, 0, none⟩ from rfl, World.cell?_alloc_new, HO.out.2]
      rfl
    have hcv := run_convert_bytes_back (P := Tryz.prog) (w.alloc (.cells #[.int .u8 n] 5)) 102 9 5 ⟨w.heap.size, 0, none⟩ 1 [b] rfl rfl rfl (fun j hj => HCV j hj)
    simp only [List.length_singleton] at hcv
    go_enter Tryz.func82, Tryz.ntmps82
    go_wp2_with fail
    go_ret
    have h6 : ¬ n < 32 ∧ ¬ 126 < n := by omega
    refine ⟨?_, (Below.refl _ _).alloc (Nat.le_refl _) _⟩
    rw [HO.out.1]
    simp [h1, h2, h3, h4, h6]
def lgQuoE (s : By) : Int := if 40 < s.length then 2 else 0
def lgQuoV (s : By) : By := if 40 < s.length then [] else quo s
def LgQuoPost (w : World) (s : By) (e : Ending) (w' : World) : Prop := e = .returned (.tuple #[.string (bs (lgQuoV s)), .int .i64 (lgQuoE s)]) ∧ Below w.heap.size w w'
theorem ones_next {s : ByteArray} {k : Nat} (hk : k < s.size) : (s.data.toList.take (k + 1)).flatMap one = (s.data.toList.take k).flatMap one ++ one s[k] := by
  have hl : k < s.data.toList.length := by rw [Array.length_toList]; exact hk
  rw [List.take_succ_eq_append_getElem hl, List.flatMap_append]
  simp [ByteArray.getElem_eq_getElem_data]
set_option maxRecDepth 100000 in
set_option maxHeartbeats 4000000 in
theorem rQuote_any (s : ByteArray) (w : World) (hs : s.size ≤ 1000000) :
    Calls Tryz.prog 25 #[.string s] w (LgQuoPost w s.data.toList) := by
  have hlen : s.data.toList.length = s.size := Array.length_toList
  obtain ⟨T, hT⟩ : ∃ T, T = s.data.toList := ⟨_, rfl⟩
  have hE : lgQuoE T = if 40 < s.size then 2 else 0 := by unfold lgQuoE; rw [hT, hlen]
  have hV : lgQuoV T = if 40 < s.size then [] else quo T := by unfold lgQuoV; rw [hT, hlen]
  rw [← hT]
  have H := Lib.hid (And.intro hE (And.intro hV (And.intro hT hlen)))
  clear hE hV hT hlen
  by_cases h1 : 40 < s.size
  · go_enter Tryz.func25, Tryz.ntmps25
    go_wp2_with fail
    go_ret2
    exact ⟨by rw [H.out.1, H.out.2.1, if_pos h1, if_pos h1]; rfl, Below.refl _ _⟩
  go_enter Tryz.func25, Tryz.ntmps25
  go_wp2_with fail
  go_loopg [4, 5] s.size (fun g o i wr => ∃ k : Nat, g + k = s.size ∧ i = .int .i64 k ∧ o = .string (bs (34 :: (T.take k).flatMap one)) ∧ Below w.heap.size w wr)
  case atStart => exact ⟨0, rfl, rfl, by rw [List.take_zero]; rfl, Below.refl _ _⟩
  case round =>
    obtain ⟨k, hk, rfl, rfl, hb⟩ := hrel
    by_cases hlt : k < s.size
    · obtain ⟨O, hO⟩ : ∃ O, O = bs (34 :: (T.take k).flatMap one) := ⟨_, rfl⟩
      obtain ⟨P, hP⟩ : ∃ P, P = bs (one s[k]) := ⟨_, rfl⟩
      have ko := rOne_any s[k] wr
      have o1 : O.size ≤ 1000 := by rw [hO, bs_size, List.length_cons]; have := (ones_len (T.take k)).2; rw [List.length_take] at this; omega
      have o2 : P.size ≤ 4 := by rw [hP, bs_size]; exact (one_len _).2
      rw [← hP] at ko
      rw [← hO]
      have HO := Lib.hid (And.intro hO (And.intro hb (And.intro ko hP)))
      clear hO hb ko hP
      go_wp2_with (go_at_call 82; refine HO.out.2.2.1.mono ?_; rintro e w1 ⟨rfl, hw1⟩; have HW := Lib.hid hw1; clear hw1)
      go_roundg (gk - 1)
      case measure => omega
      case rel =>
        refine ⟨k + 1, by omega, by go_num, ?_, HO.out.2.1.trans (HW.out.mono HO.out.2.1.size)⟩
        rw [HO.out.1, HO.out.2.2.2, bs_app, H.out.2.2.1, ones_next hlt]
        rfl
    · obtain rfl : k = s.size := by omega
      obtain ⟨O, hO⟩ : ∃ O, O = bs (34 :: (T.take s.size).flatMap one) := ⟨_, rfl⟩
      have o1 : O.size ≤ 1000 := by rw [hO, bs_size, List.length_cons]; have := (ones_len (T.take s.size)).2; rw [List.length_take] at this; omega
      rw [← hO]
      have hb' := Lib.hid (And.intro hb hO)
      clear hb hO
      go_wp2_with fail
      go_ret2
      refine ⟨?_, hb'.out.1⟩
      rw [H.out.1, H.out.2.1, if_neg h1, if_neg h1, hb'.out.2, show (⟨#[34]⟩ : ByteArray) = bs [34] from rfl, bs_app, ← H.out.2.2.2, ← H.out.2.2.1, List.take_length]
      rfl
end Go.Proofs.YtaokegobilphnaaGreatDoor
/- log.escapes -/
namespace Go.Proofs.YtaokegobilphnaaGreatDoor
open Go Go.RowKit Go.Shelf Go.Proofs Sp Lg Go.WideMaps
set_option linter.unusedVariables false
set_option linter.unusedSimpArgs false

def setMap (w : World) (mb : Nat) (es : Array MapEntry) (c : Nat) : World := { w with heap := w.heap.setIfInBounds mb (.map es c) }
theorem setMap_heap {w : World} {mb : Nat} {es : Array MapEntry} {c : Nat} (h : mb < w.heap.size) : (setMap w mb es c).heap[mb]? = some (.map es c) := by simp [setMap, h]
theorem upd_new {P : Program} {t k e : TypeId} (K : Maps.Keyed P k) (ht : P.underlying t = some (.map k e)) {w : World} {mb c : Nat} {es : Array MapEntry} (hb : w.heap[mb]? = some (.map es c)) {key v : Value} {kl : Lit} (hkey : keyOf P k key = some kl)
    (hes : ∀ x ∈ es.toList, ∃ l, keyOf P k x.key = some l) (hn : ∀ x ∈ es.toList, x.key ≠ key) :
    (Instr.mapUpdate t (.map (some mb)) key v).run P w = .ok () (setMap w mb (es.push ⟨key, v, c⟩) (c + 1)) := by
  rcases K.find w hkey es.toList hes with ⟨h1, h2⟩ | ⟨j, e0, h1, h2, h3⟩
  · simp [Instr.mapUpdate, run_underlying ht, MapKept.run_getObj_map hb, K.check w _ hkey, h1, MapKept.run_setObj_map _ hb, Result.andThen, setMap]
  · exact absurd h3 (hn e0 (List.mem_of_getElem? h2))
theorem look_at {P : Program} {t k e : TypeId} (K : Maps.Keyed P k) (ht : P.underlying t = some (.map k e)) {z : Value} (hz : ∀ u : World, (zeroValue e).run P u = .ok z u) {w : World} {mb c : Nat} {es : Array MapEntry} (hb : w.heap[mb]? = some (.map es c)) {key : Value} {kl : Lit} (hkey : keyOf P k key = some kl)
    (hes : ∀ x ∈ es.toList, ∃ l, keyOf P k x.key = some l) :
    ((Instr.lookup t (.map (some mb)) key true).run P w = .ok (.tuple #[z, .bool false]) w ∧ ∀ x ∈ es.toList, x.key ≠ key) ∨ ∃ x ∈ es.toList, x.key = key ∧ (Instr.lookup t (.map (some mb)) key true).run P w = .ok (.tuple #[x.val, .bool true]) w := by
  rcases K.find w hkey es.toList hes with ⟨h1, h2⟩ | ⟨j, e0, h1, h2, h3⟩
  · exact .inl ⟨by simp [Instr.lookup, run_underlying ht, MapKept.run_getObj_map hb, K.check w _ hkey, h1, hz, Result.andThen], h2⟩
  · exact .inr ⟨e0, List.mem_of_getElem? h2, h3, by simp [Instr.lookup, run_underlying ht, MapKept.run_getObj_map hb, K.check w _ hkey, h1, Result.andThen]⟩
def escE : Array MapEntry := #[⟨.int .u8 34, .string ⟨#[92, 34]⟩, 0⟩, ⟨.int .u8 92, .string ⟨#[92, 92]⟩, 1⟩, ⟨.int .u8 42, .string ⟨#[92, 42]⟩, 2⟩, ⟨.int .u8 10, .string ⟨#[92, 110]⟩, 3⟩]
theorem u8Keyed : Maps.Keyed Tryz.prog 5 := Maps.int_keyed (q := .u8) Tryz.underlying5
theorem u8Key (n : Nat) (h : n < 256) : keyOf Tryz.prog 5 (.int .u8 n) = some (.int .u8 n) := by
  refine Maps.keyOf_int_mk Tryz.underlying5 ?_
  have h1 : IntKind.u8.min = 0 := by decide
  have h2 : IntKind.u8.max = 255 := by decide
  simp [Lit.wf, h1, h2]
  omega
theorem escKeys (k : Nat) : ∀ x ∈ (escE.take k).toList, ∃ l, keyOf Tryz.prog 5 x.key = some l := by
  intro x hx
  have hx := List.mem_of_mem_take (by simpa using hx : x ∈ escE.toList.take k)
  simp [escE] at hx
  rcases hx with rfl | rfl | rfl | rfl
  · exact ⟨_, u8Key 34 (by decide)⟩
  · exact ⟨_, u8Key 92 (by decide)⟩
  · exact ⟨_, u8Key 42 (by decide)⟩
  · exact ⟨_, u8Key 10 (by decide)⟩
theorem esc_step {w : World} {mb k : Nat} (hb : w.heap[mb]? = some (.map (escE.take k) k)) {c : Nat} {v : Value} (hc : c < 256) (hn : ∀ x ∈ (escE.take k).toList, x.key ≠ .int .u8 c) (he : (escE.take k).push ⟨.int .u8 c, v, k⟩ = escE.take (k + 1)) :
    ∃ w', (Instr.mapUpdate 187 (.map (some mb)) (.int .u8 c) v).run Tryz.prog w = .ok () w' ∧ w'.heap[mb]? = some (.map (escE.take (k + 1)) (k + 1)) ∧ Keep [mb] w w' := by
  refine ⟨_, upd_new u8Keyed (t := 187) (e := 9) Tryz.underlying187 hb (key := .int .u8 c) (v := v) (u8Key c hc) (escKeys k) hn, ?_, ?_⟩
  · rw [he]; exact setMap_heap (heap_lt hb)
  · exact ⟨rfl, rfl, rfl, by simp [setMap], fun i hi hne => by simp only [List.mem_singleton] at hne; exact Array.getElem?_setIfInBounds_ne (fun e => hne e.symm)⟩
set_option maxRecDepth 100000 in
set_option maxHeartbeats 4000000 in
theorem gEscapes_any (w : World) :
    Calls Tryz.prog 121 #[] w fun e w' => e = .returned (.map (some w.heap.size)) ∧ w'.heap[w.heap.size]? = some (.map escE 4) ∧ Below w.heap.size w w' := by
  have hmm : (Instr.makeMap 187 none).run Tryz.prog w = .ok (.map (some w.heap.size)) (w.alloc (.map #[] 0)) := run_makeMap ..
  obtain ⟨mb, hmb⟩ : ∃ b, b = w.heap.size := ⟨_, rfl⟩
  obtain ⟨W0, hW0⟩ : ∃ W, W = w.alloc (.map #[] 0) := ⟨_, rfl⟩
  have b0 : W0.heap[mb]? = some (.map (escE.take 0) 0) := by rw [hW0, hmb]; exact heap_alloc_new _ _
  have k0 : Keep [mb] w W0 := by rw [hW0]; exact (Keep.refl _ _).alloc _
  obtain ⟨W1, s1, b1, k1⟩ := esc_step b0 (c := 34) (v := .string ⟨#[92, 34]⟩) (by decide) (by simp) (by simp [escE])
  obtain ⟨W2, s2, b2, k2⟩ := esc_step b1 (c := 92) (v := .string ⟨#[92, 92]⟩) (by decide) (by simp [escE]) (by simp [escE])
  obtain ⟨W3, s3, b3, k3⟩ := esc_step b2 (c := 42) (v := .string ⟨#[92, 42]⟩) (by decide) (by simp [escE]) (by simp [escE])
  obtain ⟨W4, s4, b4, k4⟩ := esc_step b3 (c := 10) (v := .string ⟨#[92, 110]⟩) (by decide) (by simp [escE]) (by simp [escE])
  rw [show ((34 : Nat) : Int) = 34 from rfl] at s1
  rw [show ((92 : Nat) : Int) = 92 from rfl] at s2
  rw [show ((42 : Nat) : Int) = 42 from rfl] at s3
  rw [show ((10 : Nat) : Int) = 10 from rfl] at s4
  have hk := (((k0.trans k1 (by simp)).trans k2 (by simp)).trans k3 (by simp)).trans k4 (by simp)
  rw [← hmb] at hmm ⊢
  rw [← hW0] at hmm
  have H := Lib.hid (And.intro b4 (And.intro hk hmb))
  clear b0 b1 b2 b3 b4 k0 k1 k2 k3 k4 hk hmb hW0
  go_enter Tryz.func121, Tryz.ntmps121
  go_wp2_with fail
  go_ret
  exact ⟨rfl, H.out.1, H.out.2.1.mono (S' := []) (by simp [H.out.2.2]) |>.below (Nat.le_of_eq H.out.2.2) (by simp)⟩
end Go.Proofs.YtaokegobilphnaaGreatDoor
/- strings.Builder for the texts of layer 13; log.quoted, Quote -/
namespace Go.Proofs.YtaokegobilphnaaGreatDoor
open Go Go.RowKit Go.Shelf Go.Proofs Sp Lg
set_option linter.unusedVariables false
set_option linter.unusedSimpArgs false

/-- a builder of the call's own that holds the bytes l -/
def Bld (w0 : World) (b : Nat) (l : By) (w : World) : Prop := Lib.IsBuilderF 112 5 w0.heap.size b (Lib.byteCells l) w ∧ Below w0.heap.size w0 w
theorem Bld.start {w0 w : World} (h : Below w0.heap.size w0 w) : Bld w0 w.heap.size [] (w.alloc (.cells #[.pointer none, .slice none 0 0] 112)) :=
  ⟨.inl ⟨h.size, .slice none 0 0, heap_alloc_new _ _, ⟨rfl, .inl ⟨rfl, rfl⟩⟩, by simp [Value.ownBlock]⟩, h.alloc h.size _⟩
theorem byteCells_app (l m : By) : Lib.byteCells l ++ Lib.byteCells m = Lib.byteCells (l ++ m) := by simp [Lib.byteCells]
theorem below_builder {T e : TypeId} {B b : Nat} {p : Value} {bs : List Value} {W W' : World} (h : Lib.BuilderAtF T e B b p bs W) (hb : Below W.heap.size W W') : Lib.BuilderAtF T e B b p bs W' := by
  have hlt := h.lt
  obtain ⟨hB, v, hv, hown, hne⟩ := h
  exact ⟨hB, v, (hb.block b hlt).trans hv, hown.kept (row := none) ⟨hb.os, hb.tape, hb.output, hb.size, fun k hk _ => hb.block k hk⟩ (Classical.em _), hne⟩
theorem Bld.below {w0 : World} {b : Nat} {l : By} {w w' : World} (h : Bld w0 b l w) (hb : Below w.heap.size w w') : Bld w0 b l w' :=
  ⟨h.1.elim (fun x => .inl (below_builder x hb)) (fun x => .inr (below_builder x hb)), h.2.trans (hb.mono h.2.size)⟩
theorem wByte {w0 : World} {b : Nat} {l : By} {w : World} (h : Bld w0 b l w) (c : UInt8) (hl : l.length ≤ 100000000) :
    Calls Tryz.prog 120 #[.pointer (some ⟨b, 0, none⟩), .int .u8 c.toNat] w fun e w' => e = .returned .nilIface ∧ Bld w0 b (l ++ [c]) w' ∧ Lib.OthersKept 5 (some b) w w' := by
  refine (Tryz.Builder_WriteByte_k w0.heap.size b (Lib.byteCells l) c.toNat w h.1 (by rw [Lib.byteCells_length]; omega) h.2.size).mono ?_
  rintro e w' ⟨rfl, h1, h2, h3⟩
  exact ⟨rfl, ⟨.inr (by rw [← byteCells_app]; exact h1), h.2.trans h2⟩, h3⟩
theorem wString {w0 : World} {b : Nat} {l : By} {w : World} (h : Bld w0 b l w) (m : By) (hl : l.length ≤ 100000000) (hm : m.length ≤ 100000000) :
    Calls Tryz.prog 64 #[.pointer (some ⟨b, 0, none⟩), .string (bs m)] w fun e w' => e = .returned (.tuple #[.int .i64 m.length, .nilIface]) ∧ Bld w0 b (l ++ m) w' ∧ Lib.OthersKept 5 (some b) w w' := by
  refine (Tryz.Builder_WriteString_k w0.heap.size b (Lib.byteCells l) (bs m) w h.1 (by rw [Lib.byteCells_length, bs_size]; omega) h.2.size).mono ?_
  rintro e w' ⟨rfl, h1, h2, h3⟩
  exact ⟨by rw [bs_size], ⟨.inr (by rw [← byteCells_app]; exact h1), h.2.trans h2⟩, h3⟩
theorem bString {w0 : World} {b : Nat} {l : By} {w : World} (h : Bld w0 b l w) :
    Calls Tryz.prog 68 #[.pointer (some ⟨b, 0, none⟩)] w fun e w' => e = .returned (.string (bs l)) ∧ Bld w0 b l w' := by
  refine (Tryz.Builder_String_any_k w0.heap.size b l w h.1 h.2.size).mono ?_
  rintro e w' ⟨rfl, h1, h2, h3⟩
  exact ⟨rfl, h1, h.2.trans h2⟩
theorem hex_at {d : Nat} (h : d < 16) : ∀ p, ((⟨#[48, 49, 50, 51, 52, 53, 54, 55, 56, 57, 97, 98, 99, 100, 101, 102]⟩ : ByteArray)[d]'p) = hexd d := by
  have : ∀ d : Fin 16, (⟨#[48, 49, 50, 51, 52, 53, 54, 55, 56, 57, 97, 98, 99, 100, 101, 102]⟩ : ByteArray)[d.1]'(d.2) = hexd d.1 := by decide
  intro p
  exact this ⟨d, h⟩
theorem zeroStr (w : World) : (zeroValue 9).run Tryz.prog w = .ok (.string ⟨#[]⟩) w := by kernel_rfl
theorem esc_yes {w : World} {mb : Nat} (hb : w.heap[mb]? = some (.map escE 4)) {c : UInt8} (h : c = 10 ∨ c = 34 ∨ c = 42 ∨ c = 92) :
    (Instr.lookup 187 (.map (some mb)) (.int .u8 c.toNat) true).run Tryz.prog w = .ok (.tuple #[.string (bs (one c)), .bool true]) w := by
  have hc : c.toNat < 256 := c.toNat_lt
  have hes : ∀ x ∈ escE.toList, ∃ l, keyOf Tryz.prog 5 x.key = some l := by have := escKeys 4; simpa [escE] using this
  rcases look_at u8Keyed (t := 187) (e := 9) (z := .string ⟨#[]⟩) Tryz.underlying187 zeroStr hb (key := .int .u8 c.toNat) (u8Key _ hc) hes with ⟨_, h2⟩ | ⟨x, hx, h1, h2⟩
  · exfalso
    simp [escE] at h2
    rcases h with rfl | rfl | rfl | rfl <;> simp at h2
  · rw [h2]
    simp [escE] at hx
    rcases h with rfl | rfl | rfl | rfl <;> rcases hx with rfl | rfl | rfl | rfl <;> first | rfl | (simp at h1)
theorem esc_no {w : World} {mb : Nat} (hb : w.heap[mb]? = some (.map escE 4)) {c : UInt8} (h : ¬ (c = 10 ∨ c = 34 ∨ c = 42 ∨ c = 92)) :
    (Instr.lookup 187 (.map (some mb)) (.int .u8 c.toNat) true).run Tryz.prog w = .ok (.tuple #[.string ⟨#[]⟩, .bool false]) w := by
  have hc : c.toNat < 256 := c.toNat_lt
  have hes : ∀ x ∈ escE.toList, ∃ l, keyOf Tryz.prog 5 x.key = some l := by have := escKeys 4; simpa [escE] using this
  rcases look_at u8Keyed (t := 187) (e := 9) (z := .string ⟨#[]⟩) Tryz.underlying187 zeroStr hb (key := .int .u8 c.toNat) (u8Key _ hc) hes with ⟨h1, _⟩ | ⟨x, hx, h1, h2⟩
  · exact h1
  · exfalso
    apply h
    have eqs : ∀ d : UInt8, (d.toNat : Int) = c.toNat → c = d := fun d e => (UInt8.toNat_inj.1 (by omega)).symm
    simp [escE] at hx
    rcases hx with rfl | rfl | rfl | rfl
    · exact .inr (.inl (eqs 34 (by simpa using h1)))
    · exact .inr (.inr (.inr (eqs 92 (by simpa using h1))))
    · exact .inr (.inr (.inl (eqs 42 (by simpa using h1))))
    · exact .inl (eqs 10 (by simpa using h1))
set_option maxRecDepth 100000 in
set_option maxHeartbeats 4000000 in
theorem gQuoted_any (s : ByteArray) (w : World) (hs : s.size ≤ 1000000) :
    Calls Tryz.prog 81 #[.string s] w fun e w' => e = .returned (.string (bs (quo s.data.toList))) ∧ Below w.heap.size w w' := by
  have hlen : s.data.toList.length = s.size := Array.length_toList
  obtain ⟨T, hT⟩ : ∃ T, T = s.data.toList := ⟨_, rfl⟩
  rw [← hT]
  have H := Lib.hid (And.intro hT hlen)
  clear hT hlen
  obtain ⟨b, hb⟩ : ∃ b, b = w.heap.size := ⟨_, rfl⟩
  obtain ⟨W1, hW1⟩ : ∃ W, W = w.alloc (.cells #[.pointer none, .slice none 0 0] 112) := ⟨_, rfl⟩
  have k0 : Bld w b [] W1 := by rw [hb, hW1]; exact Bld.start (Below.refl _ _)
  have HB0 := Lib.hid (And.intro k0 hb)
  go_enter Tryz.func81, Tryz.ntmps81
  go_upto_region 2 with fail
  rw [← hW1, ← hb]
  clear k0 hb hW1
  go_wp2_with (first
    | (go_at_call 120; refine (wByte HB0.out.1 34 (by simp)).mono ?_; rintro e W2 ⟨rfl, k1, _⟩; have HB1 := Lib.hid k1; clear k1)
    | (go_at_call 121; refine (gEscapes_any W2).mono ?_; rintro e W3 ⟨rfl, m1, m2⟩; have HM := Lib.hid (And.intro m1 m2); clear m1 m2))
  go_loopg [13] s.size (fun g i wr => ∃ k : Nat, g + k = s.size ∧ i = .int .i64 k ∧ Bld w b (34 :: (T.take k).flatMap one) wr ∧ wr.heap[W2.heap.size]? = some (.map escE 4))
  case atStart =>
    refine ⟨0, rfl, rfl, ?_, HM.out.1⟩
    rw [List.take_zero]
    exact HB1.out.below HM.out.2
  case round =>
    obtain ⟨k, hk, rfl, kb, km⟩ := hrel
    by_cases hlt : k < s.size
    · obtain ⟨c, hc⟩ : ∃ c, c = s[k] := ⟨_, rfl⟩
      obtain ⟨O, hO⟩ : ∃ O, O = 34 :: (T.take k).flatMap one := ⟨_, rfl⟩
      rw [← hO] at kb
      have o1 : O.length ≤ 10000000 := by rw [hO, List.length_cons]; have := (ones_len (T.take k)).2; rw [List.length_take] at this; omega
      have hmb : some W2.heap.size ≠ some b := fun e => by have h1 := heap_lt HM.out.1; have h2 := (HB1.out).1; have := Option.some.inj e; rcases h2 with h | h <;> (have := h.lt; omega)
      have hnx : 34 :: (T.take (k + 1)).flatMap one = O ++ one c := by rw [hO, H.out.1, ones_next hlt, hc]; rfl
      obtain ⟨n, hn⟩ : ∃ n, n = c.toNat := ⟨_, rfl⟩
      have hn2 : n < 256 := by rw [hn]; exact c.toNat_lt
      have hsk : s[k].toNat = n := by rw [hn, hc]
      by_cases hy : c = 10 ∨ c = 34 ∨ c = 42 ∨ c = 92
      · have kl := esc_yes km hy
        rw [← hn] at kl
        have HO := Lib.hid (And.intro hO (And.intro kb (And.intro km (And.intro hnx (And.intro hmb (And.intro hc hn))))))
        have HY := Lib.hid hy
        clear hO kb km hnx hmb hc hn hy
        go_wp2_with (go_at_call 64; refine (wString HO.out.2.1 (one c) (by omega) (by have := (one_len c).2; omega)).mono ?_; rintro e W5 ⟨rfl, q1, q2⟩; have HQ := Lib.hid (And.intro q1 q2); clear q1 q2)
        go_roundg (gk - 1)
        case measure => omega
        case rel =>
          refine ⟨k + 1, by omega, by go_num, ?_, ?_⟩
          · rw [HO.out.2.2.2.1]; exact HQ.out.1
          · exact HQ.out.2 _ _ HO.out.2.2.1 HO.out.2.2.2.2.1 (fun _ _ h => by cases h)
      · have kl := esc_no km hy
        rw [← hn] at kl
        have ho1 : n < 32 ∨ 126 < n → one c = [92, 120, hexd (n / 16), hexd (n % 16)] := fun h => by
          unfold one; rw [if_neg (fun e => hy (.inl e)), if_neg (fun e => hy (.inr (.inl e))), if_neg (fun e => hy (.inr (.inr (.inl e)))), if_neg (fun e => hy (.inr (.inr (.inr e)))), ← hn, if_pos h]
        have ho2 : ¬ (n < 32 ∨ 126 < n) → one c = [c] := fun h => by
          unfold one; rw [if_neg (fun e => hy (.inl e)), if_neg (fun e => hy (.inr (.inl e))), if_neg (fun e => hy (.inr (.inr (.inl e)))), if_neg (fun e => hy (.inr (.inr (.inr e)))), ← hn, if_neg h]
        have HO := Lib.hid (And.intro hO (And.intro kb (And.intro km (And.intro hnx (And.intro hmb (And.intro hc (And.intro hn (And.intro ho1 ho2))))))))
        have HY := Lib.hid hy
        obtain ⟨hi, hhi⟩ : ∃ h, h = n / 16 := ⟨_, rfl⟩
        obtain ⟨lo, hlo⟩ : ∃ h, h = n % 16 := ⟨_, rfl⟩
        have e1 : (n : Int).tdiv 16 = (hi : Int) := by rw [hhi, Int.tdiv_eq_ediv_of_nonneg (by omega)]; omega
        have e2 : (n : Int).tmod 16 = (lo : Int) := by rw [hlo, Int.tmod_eq_emod_of_nonneg (by omega)]; omega
        have b1 : hi < 16 := by omega
        have b2 : lo < 16 := by omega
        have x1 := hex_at b1
        have x2 := hex_at b2
        have HI := Lib.hid (And.intro hhi hlo)
        clear hO kb km hnx hmb hc hn hy ho1 ho2 hhi hlo
        have T1 := Lib.hid True.intro
        have T2 := Lib.hid True.intro
        by_cases h6 : n < 32
        · have h7 : ¬ 126 < n := by omega
          go_wp2_with (first
            | (go_at_call 64; refine (wString HO.out.2.1 [92, 120] (by omega) (by simp)).mono ?_; rintro e W5 ⟨rfl, q1, q2⟩; have HQ := Lib.hid (And.intro q1 q2); clear q1 q2)
            | (go_at_call 120; clear T1; refine (wByte HQ.out.1 (hexd hi) (by simp; omega)).mono ?_; rintro e W6 ⟨rfl, q1, q2⟩; have HQ6 := Lib.hid (And.intro q1 q2); clear q1 q2)
            | (go_at_call 120; clear T2; refine (wByte HQ6.out.1 (hexd lo) (by simp; omega)).mono ?_; rintro e W7 ⟨rfl, q1, q2⟩; have HQ7 := Lib.hid (And.intro q1 q2); clear q1 q2))
          go_roundg (gk - 1)
          case measure => omega
          case rel =>
            refine ⟨k + 1, by omega, by go_num, ?_, ?_⟩
            · have e3 := HO.out.2.2.2.2.2.2.2.1 (by omega)
              rw [HO.out.2.2.2.1, e3, ← HI.out.1, ← HI.out.2]
              have := HQ7.out.1
              simpa using this
            · exact HQ7.out.2 _ _ (HQ6.out.2 _ _ (HQ.out.2 _ _ HO.out.2.2.1 HO.out.2.2.2.2.1 (fun _ _ h => by cases h)) HO.out.2.2.2.2.1 (fun _ _ h => by cases h)) HO.out.2.2.2.2.1 (fun _ _ h => by cases h)
        by_cases h7 : 126 < n
        · go_wp2_with (first
            | (go_at_call 64; refine (wString HO.out.2.1 [92, 120] (by omega) (by simp)).mono ?_; rintro e W5 ⟨rfl, q1, q2⟩; have HQ := Lib.hid (And.intro q1 q2); clear q1 q2)
            | (go_at_call 120; clear T1; refine (wByte HQ.out.1 (hexd hi) (by simp; omega)).mono ?_; rintro e W6 ⟨rfl, q1, q2⟩; have HQ6 := Lib.hid (And.intro q1 q2); clear q1 q2)
            | (go_at_call 120; clear T2; refine (wByte HQ6.out.1 (hexd lo) (by simp; omega)).mono ?_; rintro e W7 ⟨rfl, q1, q2⟩; have HQ7 := Lib.hid (And.intro q1 q2); clear q1 q2))
          go_roundg (gk - 1)
          case measure => omega
          case rel =>
            refine ⟨k + 1, by omega, by go_num, ?_, ?_⟩
            · have e3 := HO.out.2.2.2.2.2.2.2.1 (by omega)
              rw [HO.out.2.2.2.1, e3, ← HI.out.1, ← HI.out.2]
              have := HQ7.out.1
              simpa using this
            · exact HQ7.out.2 _ _ (HQ6.out.2 _ _ (HQ.out.2 _ _ HO.out.2.2.1 HO.out.2.2.2.2.1 (fun _ _ h => by cases h)) HO.out.2.2.2.2.1 (fun _ _ h => by cases h)) HO.out.2.2.2.2.1 (fun _ _ h => by cases h)
        · have kw := wByte HO.out.2.1 c (by omega)
          rw [← HO.out.2.2.2.2.2.2.1] at kw
          have KW := Lib.hid kw
          clear kw
          go_wp2_with (go_at_call 120; refine KW.out.mono ?_; rintro e W5 ⟨rfl, q1, q2⟩; have HQ := Lib.hid (And.intro q1 q2); clear q1 q2)
          go_roundg (gk - 1)
          case measure => omega
          case rel =>
            refine ⟨k + 1, by omega, by go_num, ?_, ?_⟩
            · rw [HO.out.2.2.2.1, HO.out.2.2.2.2.2.2.2.2 (by omega)]; exact HQ.out.1
            · exact HQ.out.2 _ _ HO.out.2.2.1 HO.out.2.2.2.2.1 (fun _ _ h => by cases h)
    · obtain rfl : k = s.size := by omega
      obtain ⟨O, hO⟩ : ∃ O, O = 34 :: (T.take s.size).flatMap one := ⟨_, rfl⟩
      rw [← hO] at kb
      have o1 : O.length ≤ 10000000 := by rw [hO, List.length_cons]; have := (ones_len (T.take s.size)).2; rw [List.length_take] at this; omega
      have HO := Lib.hid (And.intro kb hO)
      clear kb km hO
      go_wp2_with (first
        | (go_at_call 120; refine (wByte HO.out.1 34 (by omega)).mono ?_; rintro e W5 ⟨rfl, q1, q2⟩; have HQ := Lib.hid (And.intro q1 q2); clear q1 q2)
        | (go_at_call 68; refine (bString HQ.out.1).mono ?_; rintro e W6 ⟨rfl, q1⟩; have HZ := Lib.hid q1; clear q1))
      go_ret
      refine ⟨?_, HZ.out.2⟩
      rw [HO.out.2, ← H.out.2, ← H.out.1, List.take_length]
      rfl
set_option maxRecDepth 100000 in
set_option maxHeartbeats 4000000 in
theorem gQuote_any (s : ByteArray) (w : World) (hs : s.size ≤ 1000000) :
    Calls Tryz.prog 24 #[.string s] w (LgQuoPost w s.data.toList) := by
  have hlen : s.data.toList.length = s.size := Array.length_toList
  obtain ⟨T, hT⟩ : ∃ T, T = s.data.toList := ⟨_, rfl⟩
  have kq := gQuoted_any s w hs
  obtain ⟨q, hq⟩ : ∃ q, q = bs (quo T) := ⟨_, rfl⟩
  rw [← hT, ← hq] at kq
  have hE : lgQuoE T = if 40 < s.size then 2 else 0 := by unfold lgQuoE; rw [hT, hlen]
  have hV : bs (lgQuoV T) = if 40 < s.size then ⟨#[]⟩ else q := by unfold lgQuoV; rw [hT, hlen, ← hT, hq]; split <;> rfl
  rw [← hT]
  have H := Lib.hid (And.intro hE (And.intro hV kq))
  clear hE hV hT hlen kq hq
  by_cases h1 : 40 < s.size
  · go_enter Tryz.func24, Tryz.ntmps24
    go_wp2_with fail
    go_ret2
    exact ⟨by rw [H.out.1, H.out.2.1, if_pos h1, if_pos h1]; rfl, Below.refl _ _⟩
  · go_enter Tryz.func24, Tryz.ntmps24
    go_wp2_with (go_at_call 81; refine H.out.2.2.mono ?_; rintro e w1 ⟨rfl, hw1⟩; have HW := Lib.hid hw1; clear hw1)
    go_ret2
    exact ⟨by rw [H.out.1, H.out.2.1, if_neg h1, if_neg h1]; rfl, HW.out⟩
end Go.Proofs.YtaokegobilphnaaGreatDoor
/- (Entry).content -/
namespace Go.Proofs.YtaokegobilphnaaGreatDoor
open Go Go.RowKit Go.Shelf Go.Proofs Sp Lg
set_option linter.unusedVariables false
set_option linter.unusedSimpArgs false

theorem addStr {x y : ByteArray} (h : x.size + y.size ≤ 1000000000) : Op.stringOp .add x y = pure (.string (x ++ y)) := by
  unfold Op.stringOp
  simp only
  rw [if_neg]
  have : IntKind.i64.max = 9223372036854775807 := by decide
  rw [this]; omega
/-- an entry's cells -/
def entC (x : Ent) (A : Option Addr) (c : Nat) : Array Value := #[.int .i64 x.minute, .int .i64 x.ship, .string (bs x.verb), .slice A x.args.length c, .string (bs x.note)]
theorem okE_nat {x : Ent} (h : OkE x) : NatL x.args ∧ NatL [x.minute, x.ship] := by
  refine ⟨fun n hn => ?_, fun n hn => ?_⟩
  · have := h.aa n hn; omega
  · have h1 := h.m
    have h2 := h.s
    simp only [List.mem_cons, List.not_mem_nil, or_false] at hn
    rcases hn with rfl | rfl <;> omega
def hd3 (x : Ent) : By := joinS [decI x.minute, decI x.ship] ++ 32 :: x.verb
theorem joinS_head (a b v : By) (r : List By) : joinS (a :: b :: v :: r) = joinS [a, b] ++ 32 :: v ++ (if r = [] then [] else 32 :: joinS r) := by
  cases r with
  | nil => simp [joinS]
  | cons x r => simp [joinS]
theorem told_parts (x : Ent) : told x = hd3 x ++ (if x.args = [] then [] else 32 :: joinS (x.args.map decI)) ++ (if x.note = [] then [] else 32 :: quo x.note) := by
  unfold told headF hd3
  rw [joinS_head]
  cases x.args <;> simp
theorem cat32 (a b : By) : bs a ++ (⟨#[32]⟩ ++ bs b) = bs (a ++ 32 :: b) := by rw [show (⟨#[32]⟩ : ByteArray) = bs [32] from rfl, bs_app, bs_app]; rfl
theorem cat32' (a b : By) : bs a ++ ⟨#[32]⟩ ++ bs b = bs (a ++ 32 :: b) := by rw [show (⟨#[32]⟩ : ByteArray) = bs [32] from rfl, bs_app, bs_app]; simp
theorem bs_empty {l : By} : (bs l).toList.isEmpty = decide (l = []) := by
  rw [ByteArray.toList_eq]
  cases l <;> rfl
set_option maxRecDepth 100000 in
set_option maxHeartbeats 4000000 in
theorem gContentX_any (x : Ent) (A : Option Addr) (c : Nat) (w : World) (hx : OkE x) (hr : Rd w 1 A x.args.length (ints x.args)) (E : Env w) :
    Calls Tryz.prog 67 #[.agg (entC x A c)] w fun e w' => e = .returned (.string (bs (told x))) ∧ Below w.heap.size w w' := by
  obtain ⟨D, hD⟩ : ∃ D, D = bs (told x) := ⟨_, rfl⟩
  have hD2 := told_parts x
  obtain ⟨J1, hJ1⟩ : ∃ J, J = bs (joinS [decI x.minute, decI x.ship]) := ⟨_, rfl⟩
  obtain ⟨V, hV⟩ : ∃ V, V = bs x.verb := ⟨_, rfl⟩
  obtain ⟨N, hN⟩ : ∃ N, N = bs x.note := ⟨_, rfl⟩
  obtain ⟨J2, hJ2⟩ : ∃ J, J = bs (joinS (x.args.map decI)) := ⟨_, rfl⟩
  obtain ⟨Q, hQ⟩ : ∃ Q, Q = bs (quo x.note) := ⟨_, rfl⟩
  obtain ⟨n, hn⟩ : ∃ n, n = x.args.length := ⟨_, rfl⟩
  obtain ⟨m, hm⟩ : ∃ m, m = x.minute := ⟨_, rfl⟩
  obtain ⟨p, hp⟩ : ∃ p, p = x.ship := ⟨_, rfl⟩
  have z1 : J1.size ≤ 1000 := by
    rw [hJ1, bs_size]
    have := joinS_len [decI x.minute, decI x.ship] 13 (fun f hf => by simp only [List.mem_cons, List.not_mem_nil, or_false] at hf; rcases hf with rfl | rfl; exact decI_len ((okE_nat hx).2 _ (by simp)); exact decI_len ((okE_nat hx).2 _ (by simp)))
    simp at this; omega
  have z2 : V.size ≤ 1000 := by rw [hV, bs_size]; have := hx.v; omega
  have z3 : N.size ≤ 1000 := by rw [hN, bs_size]; have := hx.n; omega
  have z4 : J2.size ≤ 1000 := by
    rw [hJ2, bs_size]
    have := joinS_len (x.args.map decI) 13 (fun f hf => by obtain ⟨n, hn, rfl⟩ := List.mem_map.1 hf; exact decI_len ((okE_nat hx).1 n hn))
    have h2 := hx.a
    simp at this; omega
  have z5 : Q.size ≤ 1000 := by rw [hQ, bs_size, quo_len]; have := (ones_len x.note).2; have := hx.n; omega
  have hen : entC x A c = #[.int .i64 m, .int .i64 p, .string V, .slice A n c, .string N] := by unfold entC; rw [hm, hp, hV, hn, hN]
  rw [hen, ← hD]
  obtain ⟨W1, hW1⟩ : ∃ W, W = w.alloc (.cells #[.int .i64 m, .int .i64 p, .string V, .slice A n c, .string N] 93) := ⟨_, rfl⟩
  obtain ⟨xb, hxb⟩ : ∃ b, b = w.heap.size := ⟨_, rfl⟩
  have hb1 : W1.heap[xb]? = some (.cells #[.int .i64 m, .int .i64 p, .string V, .slice A n c, .string N] 93 (0, 0)) := by rw [hW1, hxb]; exact heap_alloc_new _ _
  have B1 : Below w.heap.size w W1 := by rw [hW1]; exact (Below.refl _ _).alloc (Nat.le_refl _) _
  have KX : ∀ {o : Nat} {u : Value}, W1.cell? ⟨xb, o, none⟩ = some u → ∀ w', Below W1.heap.size W1 w' → w'.cell? ⟨xb, o, none⟩ = some u := fun h w' hB => (hB.cell (World.block_lt_of_cell? W1 _ h)).trans h
  have x0 := KX ((cell_of_heap hb1 0).trans rfl)
  have x1 := KX ((cell_of_heap hb1 1).trans rfl)
  have x2 := KX ((cell_of_heap hb1 2).trans rfl)
  have zb := heap_lt hb1
  have E1 := Env.below E B1
  have kj : ∀ w' b c', Below W1.heap.size W1 w' → w'.heap[b]? = some (.cells #[.int .i64 m, .int .i64 p] 3 (0, 0)) → Calls Tryz.prog 66 #[.slice (some ⟨b, 0, none⟩) 2 c'] w' fun e w2 => e = .returned (.string J1) ∧ Below W1.heap.size W1 w2 := fun w' b c' hb hh => by
    have h := joined_any [m, p] (some ⟨b, 0, none⟩) c' w' ⟨rfl, fun _ => ⟨_, 0, rfl, heap_lt hh, fun j u hu => by rw [Nat.zero_add]; exact (cell_of_heap hh j).trans (by simpa [ints] using hu)⟩⟩ (by simp) (by rw [hm, hp]; exact (okE_nat hx).2) (Env.below E1 hb)
    refine h.mono ?_
    rintro e w2 ⟨rfl, b2⟩
    exact ⟨by rw [hJ1, hm, hp]; rfl, hb.trans (b2.mono hb.size)⟩
  have kj2 : ∀ w', Below W1.heap.size W1 w' → Calls Tryz.prog 66 #[.slice A n c] w' fun e w2 => e = .returned (.string J2) ∧ Below W1.heap.size W1 w2 := fun w' hb => by
    have h := joined_any x.args A c w' ((hr.below B1).below hb) (by have := hx.a; omega) (okE_nat hx).1 (Env.below E1 hb)
    rw [← hn, ← hJ2] at h
    exact h.mono fun e w2 h => ⟨h.1, hb.trans (h.2.mono hb.size)⟩
  have kq : ∀ w', Below W1.heap.size W1 w' → Calls Tryz.prog 81 #[.string N] w' fun e w2 => e = .returned (.string Q) ∧ Below W1.heap.size W1 w2 := fun w' hb => by
    have h := gQuoted_any (bs x.note) w' (by rw [bs_size]; have := hx.n; omega)
    rw [show (bs x.note).data.toList = x.note from rfl, ← hQ, ← hN] at h
    exact h.mono fun e w2 h => ⟨h.1, hb.trans (h.2.mono hb.size)⟩
  have H := Lib.hid (And.intro B1 (And.intro kj (And.intro kj2 (And.intro kq (And.intro hb1 (And.intro hD (And.intro hD2 (And.intro hJ1 (And.intro hV (And.intro hN (And.intro hJ2 (And.intro hQ hn))))))))))))
  clear B1 kj kj2 kq hD hD2 hJ1 hV hN hJ2 hQ hm hp hen hr E E1 KX hn
  go_enter Tryz.func67, Tryz.ntmps67
  go_upto_region 1 with fail
  rw [← hW1, ← hxb]
  clear hW1 hxb
  have hc1 := addStr (x := J1) (y := ⟨#[32]⟩) (by have : (⟨#[32]⟩ : ByteArray).size = 1 := rfl; omega)
  have hc2 := addStr (x := J1 ++ ⟨#[32]⟩) (y := V) (by rw [ByteArray.size_append]; have : (⟨#[32]⟩ : ByteArray).size = 1 := rfl; omega)
  go_region_held3 (fun w' => Below W1.heap.size W1 w') (first | exact (Below.refl _ _).drew | exact ((Below.refl _ _).alloc (Nat.le_refl _) _).drew | assumption)
    (first
      | (go_at_call 66
         refine (H.out.2.1 _ _ _ (((Below.refl _ _).alloc (Nat.le_refl _) _).drew) (heap_alloc_new W1 _)).mono ?_
         rintro e w3 ⟨rfl, b3⟩))
  have y3 := (b3.cell (p := ⟨xb, 3, none⟩) zb).trans ((cell_of_heap H.out.2.2.2.2.1 3).trans rfl)
  have y4 := (b3.cell (p := ⟨xb, 4, none⟩) zb).trans ((cell_of_heap H.out.2.2.2.2.1 4).trans rfl)
  have zw := Nat.lt_of_lt_of_le zb b3.size
  have H3 := Lib.hid b3
  clear b3 x0 x1 x2 hc1 hc2 hb1
  obtain ⟨S1, hS1⟩ : ∃ S, S = J1 ++ ⟨#[32]⟩ ++ V := ⟨_, rfl⟩
  have zS : S1.size ≤ 2001 := by rw [hS1, ByteArray.size_append, ByteArray.size_append]; have : (⟨#[32]⟩ : ByteArray).size = 1 := rfl; omega
  rw [← hS1]
  have hS2 : S1 = bs (hd3 x) := by rw [hS1, H.out.2.2.2.2.2.2.2.1, H.out.2.2.2.2.2.2.2.2.1, cat32']; rfl
  have HS1 := Lib.hid hS2
  clear hS1 hS2
  by_cases hn0 : 0 < n
  · have hA : ¬ x.args = [] := fun e => by have := H.out.2.2.2.2.2.2.2.2.2.2.2.2; rw [e] at this; simp at this; omega
    have HA := Lib.hid hA
    clear hA
    by_cases hno : x.note = []
    · have hNe : N.toList.isEmpty = true := by rw [H.out.2.2.2.2.2.2.2.2.2.1, bs_empty]; exact decide_eq_true hno
      have HN := Lib.hid hno
      clear hno
      go_wp2_with (first | (go_at_call 66; refine (H.out.2.2.1 _ H3.out).mono ?_; rintro e w4 ⟨rfl, b4⟩; have w4c := (b4.cell (p := ⟨xb, 4, none⟩) zb).trans ((cell_of_heap H.out.2.2.2.2.1 4).trans rfl); have zw4 := Nat.lt_of_lt_of_le zb b4.size; have H4 := Lib.hid b4; clear b4))
      go_ret
      refine ⟨?_, H.out.1.trans (H4.out.mono H.out.1.size)⟩
      show Ending.returned (.string (S1 ++ (⟨#[32]⟩ ++ J2))) = _
      rw [HS1.out, H.out.2.2.2.2.2.2.2.2.2.2.1, cat32, H.out.2.2.2.2.2.1, H.out.2.2.2.2.2.2.1, if_neg HA.out, if_pos HN.out]
      simp
    · have hNe : N.toList.isEmpty = false := by rw [H.out.2.2.2.2.2.2.2.2.2.1, bs_empty]; exact decide_eq_false hno
      have HN := Lib.hid hno
      clear hno
      go_wp2_with (first | (go_at_call 66; refine (H.out.2.2.1 _ H3.out).mono ?_; rintro e w4 ⟨rfl, b4⟩; have w4c := (b4.cell (p := ⟨xb, 4, none⟩) zb).trans ((cell_of_heap H.out.2.2.2.2.1 4).trans rfl); have zw4 := Nat.lt_of_lt_of_le zb b4.size; have H4 := Lib.hid b4; clear b4) | (go_at_call 81; refine (H.out.2.2.2.1 _ H4.out).mono ?_; rintro e w5 ⟨rfl, b5⟩; have H5 := Lib.hid b5; clear b5))
      go_ret
      refine ⟨?_, H.out.1.trans (H5.out.mono H.out.1.size)⟩
      show Ending.returned (.string ((S1 ++ (⟨#[32]⟩ ++ J2)) ++ (⟨#[32]⟩ ++ Q))) = _
      rw [HS1.out, H.out.2.2.2.2.2.2.2.2.2.2.1, H.out.2.2.2.2.2.2.2.2.2.2.2.1, cat32, cat32, H.out.2.2.2.2.2.1, H.out.2.2.2.2.2.2.1, if_neg HA.out, if_neg HN.out]
  · have hA : x.args = [] := List.length_eq_zero_iff.1 (by have := H.out.2.2.2.2.2.2.2.2.2.2.2.2; omega)
    have HA := Lib.hid hA
    clear hA
    by_cases hno : x.note = []
    · have hNe : N.toList.isEmpty = true := by rw [H.out.2.2.2.2.2.2.2.2.2.1, bs_empty]; exact decide_eq_true hno
      have HN := Lib.hid hno
      clear hno
      go_wp2_with fail
      go_ret
      refine ⟨?_, H.out.1.trans (H3.out.mono H.out.1.size)⟩
      show Ending.returned (.string (S1)) = _
      rw [HS1.out, H.out.2.2.2.2.2.1, H.out.2.2.2.2.2.2.1, if_pos HA.out, if_pos HN.out]
      simp
    · have hNe : N.toList.isEmpty = false := by rw [H.out.2.2.2.2.2.2.2.2.2.1, bs_empty]; exact decide_eq_false hno
      have HN := Lib.hid hno
      clear hno
      go_wp2_with (first | (go_at_call 81; refine (H.out.2.2.2.1 _ H3.out).mono ?_; rintro e w5 ⟨rfl, b5⟩; have H5 := Lib.hid b5; clear b5))
      go_ret
      refine ⟨?_, H.out.1.trans (H5.out.mono H.out.1.size)⟩
      show Ending.returned (.string (S1 ++ (⟨#[32]⟩ ++ Q))) = _
      rw [HS1.out, H.out.2.2.2.2.2.2.2.2.2.2.2.1, cat32, H.out.2.2.2.2.2.1, H.out.2.2.2.2.2.2.1, if_pos HA.out, if_neg HN.out]
      simp
end Go.Proofs.YtaokegobilphnaaGreatDoor
/- log.in, (Entry).check -/
namespace Go.Proofs.YtaokegobilphnaaGreatDoor
open Go Go.RowKit Go.Shelf Go.Proofs Sp Lg
set_option linter.unusedVariables false
set_option linter.unusedSimpArgs false

theorem in_any (n lo hi : Int) (w : World) : Calls Tryz.prog 109 #[.int .i64 n, .int .i64 lo, .int .i64 hi] w fun e w' => e = .returned (.bool (inB n lo hi)) ∧ w = w' := by
  go_enter Tryz.func109, Tryz.ntmps109
  go_wp2
  all_goals (go_ret; refine ⟨?_, rfl⟩; simp [inB]; try omega)
theorem arg_any (x : Int) (w : World) : Calls Tryz.prog 111 #[.int .i64 x] w fun e w' => e = .returned (.bool (!inB x 0 1000000)) ∧ w = w' := by
  go_enter Tryz.func111, Tryz.ntmps111
  go_wp2_with (go_at_call 109; refine (in_any _ _ _ _).mono ?_; rintro e w1 ⟨rfl, rfl⟩)
  go_ret
  exact ⟨rfl, rfl⟩
theorem args_any (A : Option Addr) (c : Nat) (l : List Int) (w : World) (hr : Rd w 1 A l.length (ints l)) (hm : l.length ≤ 9223372036854775807) :
    Calls Tryz.prog 110 #[.slice A l.length c, .func (.func 111) #[] #[]] w fun e w' => e = .returned (.bool (l.any fun n => !inB n 0 1000000)) ∧ ∃ m, w' = w.drewN m :=
  anyArg_any (fun n => !inB n 0 1000000) A c l w hr hm (fun x _ n => (arg_any x _).mono fun e w' h => ⟨h.1, n, h.2.symm⟩)
def ckE (x : Ent) : Int := if okE x = true then 0 else 140
set_option maxRecDepth 100000 in
set_option maxHeartbeats 4000000 in
theorem gCheckX_any (x : Ent) (A : Option Addr) (c : Nat) (w : World) (hr : Rd w 1 A x.args.length (ints x.args)) (hv : x.verb.length ≤ 1000000) (hn : x.note.length ≤ 1000000) (ha : x.args.length ≤ 1000000) :
    Calls Tryz.prog 62 #[.agg (entC x A c)] w fun e w' => e = .returned (.int .i64 (ckE x)) ∧ Below w.heap.size w w' := by
  obtain ⟨V, hV⟩ : ∃ V, V = bs x.verb := ⟨_, rfl⟩
  obtain ⟨N, hN⟩ : ∃ N, N = bs x.note := ⟨_, rfl⟩
  obtain ⟨n, hnn⟩ : ∃ n, n = x.args.length := ⟨_, rfl⟩
  obtain ⟨m, hm⟩ : ∃ m, m = x.minute := ⟨_, rfl⟩
  obtain ⟨p, hp⟩ : ∃ p, p = x.ship := ⟨_, rfl⟩
  have z2 : V.size ≤ 1000000 := by rw [hV, bs_size]; exact hv
  have z3 : N.size ≤ 1000000 := by rw [hN, bs_size]; exact hn
  have z4 : n ≤ 1000000 := by rw [hnn]; exact ha
  have hen : entC x A c = #[.int .i64 m, .int .i64 p, .string V, .slice A n c, .string N] := by unfold entC; rw [hm, hp, hV, hN, hnn]
  rw [hen]
  obtain ⟨T, hT⟩ : ∃ T, T = V.data.toList := ⟨_, rfl⟩
  obtain ⟨zb, hzb⟩ : ∃ b, b = x.args.any (fun n => !inB n 0 1000000) := ⟨_, rfl⟩
  have hres : ∀ zv, zv = (inB V.size 1 12 && T.all isLow) → okE x = (inB m 0 1000000 && (inB p 0 40 && (zv && (decide (n ≤ 4) && (decide (N.size ≤ 40) && !zb))))) := by
    rintro _ rfl
    have e4 : (x.args.all fun n => inB n 0 1000000) = !zb := by
      rw [hzb, List.not_any_eq_all_not]
      congr 1
      funext n; simp
    have e1 : V.size = x.verb.length := by rw [hV, bs_size]
    have e2 : N.size = x.note.length := by rw [hN, bs_size]
    unfold okE
    rw [e4, e1, e2, hm, hp, hnn, hT, hV]
  obtain ⟨W1, hW1⟩ : ∃ W, W = w.alloc (.cells #[.int .i64 m, .int .i64 p, .string V, .slice A n c, .string N] 93) := ⟨_, rfl⟩
  obtain ⟨xb, hxb⟩ : ∃ b, b = w.heap.size := ⟨_, rfl⟩
  have hbl : W1.heap[xb]? = some (.cells #[.int .i64 m, .int .i64 p, .string V, .slice A n c, .string N] 93 (0, 0)) := by rw [hW1, hxb]; exact heap_alloc_new _ _
  have B1 : Below w.heap.size w W1 := by rw [hW1]; exact (Below.refl _ _).alloc (Nat.le_refl _) _
  have KA := Lib.hid (args_any A c x.args W1 (hr.below B1) (by omega))
  rw [← hzb, ← hnn] at KA
  have hTl : T.length = V.size := by rw [hT]; exact Array.length_toList
  have H := Lib.hid (And.intro B1 (And.intro hbl (And.intro hres (And.intro hT hTl))))
  have zb' := heap_lt hbl
  have x0 := (cell_of_heap hbl 0).trans rfl
  have x1 := (cell_of_heap hbl 1).trans rfl
  have x2 := (cell_of_heap hbl 2).trans rfl
  have x3 := (cell_of_heap hbl 3).trans rfl
  have x4 := (cell_of_heap hbl 4).trans rfl
  clear B1 hbl hres hT hTl hen hr hV hN hm hp hv hn ha hzb hnn
  go_enter Tryz.func62, Tryz.ntmps62
  go_upto_region 1 with fail
  rw [← hW1, ← hxb]
  clear hW1 hxb
  obtain ⟨b3, hb3⟩ : ∃ b, b = inB V.size 1 12 := ⟨_, rfl⟩
  have H3 := Lib.hid hb3
  go_wp2_with (first | (go_at_call 109; refine (in_any _ _ _ _).mono ?_; rw [← H3.out]; rintro e w2 ⟨rfl, rfl⟩))
  clear hb3
  go_loopg [3, 12] V.size (fun g z i wr => ∃ k : Nat, g + k = V.size ∧ i = .int .i64 k ∧ z = .bool (b3 && (T.take k).all isLow) ∧ wr = W1)
  case atStart => exact ⟨0, rfl, rfl, by simp [H3.out], rfl⟩
  case round =>
    obtain ⟨k, hk, rfl, rfl, rfl⟩ := hrel
    by_cases hlt : k < V.size
    · obtain ⟨z, hz⟩ : ∃ z, z = (b3 && (T.take k).all isLow) := ⟨_, rfl⟩
      rw [← hz]
      have hlt2 : k < T.length := by have := H.out.2.2.2.2; omega
      have hnx : (b3 && (T.take (k + 1)).all isLow) = (z && isLow V[k]) := by
        rw [List.take_succ_eq_append_getElem hlt2, List.all_append, ← Bool.and_assoc, ← hz]
        have e : T[k] = V[k] := by have := H.out.2.2.2.1; subst this; rw [Array.getElem_toList]; rfl
        rw [e]; simp
      have HN := Lib.hid hnx
      clear hnx hz hlt2
      cases z
      · go_wp2_with fail
        go_roundg (gk - 1)
        case measure => omega
        case rel => exact ⟨k + 1, by omega, by go_num, by rw [HN.out]; rfl, rfl⟩
      · by_cases h1 : 97 ≤ V[k].toNat
        · by_cases h2 : V[k].toNat ≤ 122
          · go_wp2_with fail
            go_roundg (gk - 1)
            case measure => omega
            case rel => exact ⟨k + 1, by omega, by go_num, by rw [HN.out]; simp [isLow, h1, h2]; try omega, rfl⟩
          · go_wp2_with fail
            go_roundg (gk - 1)
            case measure => omega
            case rel => exact ⟨k + 1, by omega, by go_num, by rw [HN.out]; simp [isLow, h1, h2]; try omega, rfl⟩
        · go_wp2_with fail
          go_roundg (gk - 1)
          case measure => omega
          case rel => exact ⟨k + 1, by omega, by go_num, by rw [HN.out]; simp [isLow, h1]; try omega, rfl⟩
    · obtain rfl : k = V.size := by omega
      rw [List.take_of_length_le (by have := H.out.2.2.2.2; omega)]
      obtain ⟨zv, hzv⟩ : ∃ z, z = (b3 && T.all isLow) := ⟨_, rfl⟩
      rw [← hzv]
      have HT := Lib.hid (H.out.2.2.1 zv (by rw [← H3.out]; exact hzv))
      clear hzv
    -- CHAIN
      cases e1 : inB m 0 1000000
      · go_wp2_with (first | (go_at_call 109; refine (in_any _ _ _ _).mono ?_; rintro e w2 ⟨rfl, rfl⟩) | (go_at_call 110; refine KA.out.mono ?_; rintro e w2 ⟨rfl, kd, rfl⟩))
        go_ret
        refine ⟨?_, (by first | exact H.out.1 | exact below_drewN H.out.1 _)⟩
        unfold ckE
        rw [HT.out, e1]
        simp
      · cases e2 : inB p 0 40
        · go_wp2_with (first | (go_at_call 109; refine (in_any _ _ _ _).mono ?_; rintro e w2 ⟨rfl, rfl⟩) | (go_at_call 110; refine KA.out.mono ?_; rintro e w2 ⟨rfl, kd, rfl⟩))
          go_ret
          refine ⟨?_, (by first | exact H.out.1 | exact below_drewN H.out.1 _)⟩
          unfold ckE
          rw [HT.out, e1, e2]
          simp
        · cases e3 : zv
          · subst e3
            go_wp2_with (first | (go_at_call 109; refine (in_any _ _ _ _).mono ?_; rintro e w2 ⟨rfl, rfl⟩) | (go_at_call 110; refine KA.out.mono ?_; rintro e w2 ⟨rfl, kd, rfl⟩))
            go_ret
            refine ⟨?_, (by first | exact H.out.1 | exact below_drewN H.out.1 _)⟩
            unfold ckE
            rw [HT.out, e1, e2]
            simp
          · subst e3
            by_cases h4 : n ≤ 4
            · have g4 : decide (n ≤ 4) = true := decide_eq_true h4
              have g4a : decide ((4 : Int) < (n : Int)) = false := decide_eq_false (by omega)
              have g4b : decide (4 < n) = false := decide_eq_false (by omega)
              by_cases h5 : N.size ≤ 40
              · have g5 : decide (N.size ≤ 40) = true := decide_eq_true h5
                have g5a : decide ((40 : Int) < (N.size : Int)) = false := decide_eq_false (by omega)
                have g5b : decide (40 < N.size) = false := decide_eq_false (by omega)
                cases e6 : zb
                · subst e6
                  go_wp2_with (first | (go_at_call 109; refine (in_any _ _ _ _).mono ?_; rintro e w2 ⟨rfl, rfl⟩) | (go_at_call 110; refine KA.out.mono ?_; rintro e w2 ⟨rfl, kd, rfl⟩))
                  go_ret
                  refine ⟨?_, (by first | exact H.out.1 | exact below_drewN H.out.1 _)⟩
                  unfold ckE
                  rw [HT.out, e1, e2, g4, g5]
                  simp
                · subst e6
                  go_wp2_with (first | (go_at_call 109; refine (in_any _ _ _ _).mono ?_; rintro e w2 ⟨rfl, rfl⟩) | (go_at_call 110; refine KA.out.mono ?_; rintro e w2 ⟨rfl, kd, rfl⟩))
                  go_ret
                  refine ⟨?_, (by first | exact H.out.1 | exact below_drewN H.out.1 _)⟩
                  unfold ckE
                  rw [HT.out, e1, e2, g4, g5]
                  simp
              · have g5 : decide (N.size ≤ 40) = false := decide_eq_false h5
                have g5a : decide ((40 : Int) < (N.size : Int)) = true := decide_eq_true (by omega)
                have g5b : decide (40 < N.size) = true := decide_eq_true (by omega)
                go_wp2_with (first | (go_at_call 109; refine (in_any _ _ _ _).mono ?_; rintro e w2 ⟨rfl, rfl⟩) | (go_at_call 110; refine KA.out.mono ?_; rintro e w2 ⟨rfl, kd, rfl⟩))
                go_ret
                refine ⟨?_, (by first | exact H.out.1 | exact below_drewN H.out.1 _)⟩
                unfold ckE
                rw [HT.out, e1, e2, g4, g5]
                simp
            · have g4 : decide (n ≤ 4) = false := decide_eq_false h4
              have g4a : decide ((4 : Int) < (n : Int)) = true := decide_eq_true (by omega)
              have g4b : decide (4 < n) = true := decide_eq_true (by omega)
              go_wp2_with (first | (go_at_call 109; refine (in_any _ _ _ _).mono ?_; rintro e w2 ⟨rfl, rfl⟩) | (go_at_call 110; refine KA.out.mono ?_; rintro e w2 ⟨rfl, kd, rfl⟩))
              go_ret
              refine ⟨?_, (by first | exact H.out.1 | exact below_drewN H.out.1 _)⟩
              unfold ckE
              rw [HT.out, e1, e2, g4]
              simp
end Go.Proofs.YtaokegobilphnaaGreatDoor
