/- polynyaref08: Windows, First -/
import Derived.Test.YtbgnkljjgfcngaaGreatRSp20
import Derived.Test.YtbgnkljjgfcngaaGreatRSp7
import Derived.Test.YtbgnkljjgfcngaaGreatRSp9
set_option linter.unusedVariables false
set_option linter.unusedSimpArgs false
namespace Go.Proofs.YtbgnkljjgfcngaaGreat
open Go Go.RowKit Sp
set_option linter.unusedVariables false

/-- the last of the first k days on which she may -/
def lastN (l : List Bool) : Nat → Int
  | 0 => -2
  | k + 1 => if l.getD k false = true then (k : Int) else lastN l k
theorem lastN_le (l : List Bool) : ∀ k : Nat, lastN l k < k ∧ -2 ≤ lastN l k
  | 0 => by simp [lastN]
  | k + 1 => by
    have := lastN_le l k
    unfold lastN
    split <;> omega
theorem joinS_last (L : List (Int × Int)) (d : Int) : ∃ s, (joinS L d).getLast? = some s ∧ s.2 = d := by
  unfold joinS
  split
  · rename_i s hs
    split
    · exact ⟨(s.1, d), by simp, rfl⟩
    · exact ⟨(d, d), by simp, rfl⟩
  · exact ⟨(d, d), by simp, rfl⟩
theorem winN_last (l : List Bool) : ∀ k, (lastN l k = -2 ∧ winN l k = []) ∨ ∃ s, (winN l k).getLast? = some s ∧ s.2 = lastN l k
  | 0 => .inl ⟨rfl, rfl⟩
  | k + 1 => by
    unfold lastN winN
    by_cases h : l.getD k false = true
    · rw [if_pos h, if_pos h]
      exact .inr (joinS_last _ _)
    · rw [if_neg h, if_neg h]
      exact winN_last l k
theorem getLast_split {α : Type} {L : List α} {s : α} (h : L.getLast? = some s) : ∃ L', L = L' ++ [s] := by
  rcases List.eq_nil_or_concat L with rfl | ⟨L', t, rfl⟩
  · cases h
  · rw [List.concat_eq_append] at h ⊢
    simp at h
    exact ⟨L', by rw [h]⟩
theorem winN_go {l : List Bool} {k : Nat} (h : l.getD k false = true) (hl : lastN l k = (k : Int) - 1) : ∃ L' s, winN l k = L' ++ [s] ∧ winN l (k + 1) = L' ++ [(s.1, (k : Int))] := by
  rcases winN_last l k with ⟨h1, _⟩ | ⟨s, h1, h2⟩
  · omega
  · obtain ⟨L', e⟩ := getLast_split h1
    refine ⟨L', s, e, ?_⟩
    rw [winN, if_pos h, joinS, h1]
    simp only
    rw [if_pos (by omega), e]
    simp
theorem winN_new {l : List Bool} {k : Nat} (h : l.getD k false = true) (hl : lastN l k ≠ (k : Int) - 1) : winN l (k + 1) = winN l k ++ [((k : Int), (k : Int))] := by
  rw [winN, if_pos h]
  rcases winN_last l k with ⟨_, h2⟩ | ⟨s, h1, h2⟩
  · rw [h2]; rfl
  · rw [joinS, h1]
    simp only
    rw [if_neg (by omega)]
theorem winN_no {l : List Bool} {k : Nat} (h : l.getD k false = false) : winN l (k + 1) = winN l k ∧ lastN l (k + 1) = lastN l k := by
  constructor
  · rw [winN, if_neg (by rw [h]; simp)]
  · rw [lastN, if_neg (by rw [h]; simp)]
theorem lastN_yes {l : List Bool} {k : Nat} (h : l.getD k false = true) : lastN l (k + 1) = k := by rw [lastN, if_pos h]

theorem spc_cells (w : World) (a b : Int) (t : TypeId) : ∀ j v, ([.int .i64 a, .int .i64 b] : List Value)[j]? = some v → (w.alloc (.cells #[.int .i64 a, .int .i64 b] t)).cell? ((⟨w.heap.size, 0, none⟩ : Addr).add j) = some v := by
  intro j v hv
  rw [show (⟨w.heap.size, 0, none⟩ : Addr).add j = ⟨w.heap.size, j, none⟩ from by simp [Addr.add]; omega, World.cell?_alloc_new]
  simpa using hv

/-- what the loop of Windows keeps -/
structure RWn (W wr : World) (L : List Bool) (k m : Nat) (Ao : Option Addr) (co : Nat) (q : List Nat) : Prop where
  len : m = (winN L k).length
  own : OwnS wr 33 2 Ao m co (spcs (winN L k)) q
  new : ∀ g ∈ q, W.heap.size ≤ g
  keep : Keep [] W wr
theorem RWn.below {W wr w2 : World} {L : List Bool} {k m : Nat} {Ao : Option Addr} {co : Nat} {q : List Nat} (h : RWn W wr L k m Ao co q) (hb : Below wr.heap.size wr w2) : RWn W w2 L k m Ao co q :=
  ⟨h.len, h.own.keepS (Keep.of_below (S := []) hb) (by simp), h.new, h.keep.trans (Keep.of_below (S := []) hb) (by simp)⟩
theorem RWn.skip {W wr : World} {L : List Bool} {k m : Nat} {Ao : Option Addr} {co : Nat} {q : List Nat} (h : RWn W wr L k m Ao co q) (hn : L.getD k false = false) : RWn W wr L (k + 1) m Ao co q :=
  ⟨by rw [(winN_no hn).1]; exact h.len, by rw [(winN_no hn).1]; exact h.own, h.new, h.keep⟩
theorem RWn.app {W wr w5 : World} {L : List Bool} {k m : Nat} {Ao : Option Addr} {co : Nat} {q : List Nat} {o : Obj} {g c' : Nat} (h : RWn W wr L k m Ao co q) (hy : L.getD k false = true) (hl : lastN L k ≠ (k : Int) - 1)
    (h1 : OwnS w5 33 2 (some ⟨g, 0, none⟩) (m + 1) c' (spcs (winN L k) ++ [.int .i64 k, .int .i64 k]) [g]) (h2 : g ∈ q ∨ (wr.alloc o).heap.size = g) (h4 : Keep q (wr.alloc o) w5) : RWn W w5 L (k + 1) (m + 1) (some ⟨g, 0, none⟩) c' [g] := by
  refine ⟨by rw [winN_new hy hl, List.length_append, ← h.len]; rfl, by rw [winN_new hy hl, spcs_append]; exact h1, fun y hy => ?_, (h.keep.alloc _).trans h4 (fun y hy => .inr (h.new _ hy))⟩
  rw [List.mem_singleton.1 hy]
  rcases h2 with h2 | h2
  · exact h.new _ h2
  · have := h.keep.size; simp at h2; omega
theorem RWn.set {W wr : World} {L : List Bool} {k m : Nat} {Ao : Option Addr} {co : Nat} {q : List Nat} (h : RWn W wr L k (m + 1) Ao co q) (hy : L.getD k false = true) (hl : lastN L k = (k : Int) - 1) :
    ∃ g u, Ao = some ⟨g, 0, none⟩ ∧ g < wr.heap.size ∧ wr.cell? ⟨g, m * 2 + 1, none⟩ = some u ∧ wr.frozen? ⟨g, m * 2 + 1, none⟩ = false ∧ W.heap.size ≤ g ∧ RWn W (wr.setCell ⟨g, m * 2 + 1, none⟩ (.int .i64 k)) L (k + 1) (m + 1) Ao co q := by
  obtain ⟨L', s, e1, e2⟩ := winN_go hy hl
  obtain ⟨g, rfl, hq, hlt, hc, hf⟩ := h.own.some_ (by omega)
  have hm : L'.length = m := by have := h.len; rw [e1] at this; simp at this; omega
  have hlen := spcs_length L'
  rw [hm] at hlen
  have hg := h.new g (by rw [hq]; simp)
  have hsp : spcs (L' ++ [s]) = spcs L' ++ spc s := by simp [spcs]
  refine ⟨g, .int .i64 s.2, rfl, hlt, hc _ _ (by rw [e1, hsp, List.getElem?_append_right (by omega), hlen]; simp [spc]), hf _, hg, by rw [e2]; simp [hm], ?_, h.new, h.keep.setCell (.inr hg) _⟩
  have h5 := h.own.set_ (m * 2 + 1) (.int .i64 k)
  have h6 : (spcs (winN L k)).set (m * 2 + 1) (.int .i64 k) = spcs (winN L (k + 1)) := by
    rw [e1, e2, spcs_append, List.set_append_right _ _ (by omega), hlen, spcs_append]
    simp [spc, spcs]
  rwa [h6] at h5

set_option maxRecDepth 100000 in
set_option maxHeartbeats 4000000 in
theorem rWindows_any (As : Option Addr) (cs : Nat) (p : Pol) (A : Option Addr) (c : Nat) (days : List Int) (v : Ves) (w : World) (hp : PolV w As cs p) (hr : Rd w 1 A days.length (ints days)) (hm : days.length ≤ 9223372036854775807) :
    Calls Tryz.prog 42 #[.agg #[.slice As p.steps.length cs, .int .i64 p.hold, .int .i64 p.calm, .int .i64 p.notice, .int .i64 p.grace], .slice A days.length c, .agg #[.int .i64 v.cls, .int .i64 v.ton, .bool v.esc]] w
      fun e w' => ∃ A1 c1, e = .returned (.tuple #[.slice A1 (windowsS p days v).length c1, .int .i64 (askS p days v)]) ∧ Rd w' 2 A1 (windowsS p days v).length (spcs (windowsS p days v)) ∧ Below w.heap.size w w' := by
  obtain ⟨i0, hi, hz0, hz1, hz2⟩ := info_parts info_span
  have rd0 := RD.new (A := A) (days := days) hp hr
  obtain ⟨W1, hW1⟩ : ∃ W, W = w.alloc (.cells #[.slice As p.steps.length cs, .int .i64 p.hold, .int .i64 p.calm, .int .i64 p.notice, .int .i64 p.grace] 65) := ⟨_, rfl⟩
  obtain ⟨ob, hob⟩ : ∃ ob, ob = w.heap.size := ⟨_, rfl⟩
  rw [← hW1, ← hob] at rd0
  obtain ⟨W, hW⟩ : ∃ W, W = W1.alloc (.cells #[.int .i64 v.cls, .int .i64 v.ton, .bool v.esc] 94) := ⟨_, rfl⟩
  obtain ⟨vb, hvb⟩ : ∃ vb, vb = W1.heap.size := ⟨_, rfl⟩
  have hvb2 : vb = ob + 1 := by rw [hvb, hW1, hob]; simp
  have hvh : W.heap[vb]? = some (.cells #[.int .i64 v.cls, .int .i64 v.ton, .bool v.esc] 94 (0, 0)) := by rw [hW, hvb]; exact heap_alloc_new _ _
  have rdW : RD w W ob As cs p A days := rd0.below (by rw [hW]; exact (Below.refl _ _).alloc (Nat.le_refl _) _)
  obtain ⟨er, her⟩ : ∃ er, er = askS p days v := ⟨_, rfl⟩
  have k1 := rasked_any As cs p A c days v W rdW.pol rdW.dys hm
  rw [← her] at k1
  obtain ⟨q0, q1, q2, q3, q4, zp⟩ := rdW.cells
  have v0 := (cell_of_heap hvh 0).trans rfl
  have v1 := (cell_of_heap hvh 1).trans rfl
  have v2 := (cell_of_heap hvh 2).trans rfl
  have HR := Lib.hid (And.intro rdW (And.intro k1 (And.intro her hvh)))
  clear hp hr rd0 rdW k1 her hvh hvb
  go_enter Tryz.func42, Tryz.ntmps42
  go_upto_region 1 with fail
  rw [← hW1, ← hob, ← hvb2, ← hW]
  clear hW hob hW1 hvb2
  go_wp2_with fail
  refine HR.out.2.1.mono ?_
  rintro e w1 ⟨rfl, b1⟩
  have rd1 := HR.out.1.below b1
  have hv1 := (b1.block _ (heap_lt HR.out.2.2.2)).trans HR.out.2.2.2
  clear q0 q1 q2 q3 q4 zp b1 v0 v1 v2
  by_cases h0 : er = 0
  · subst h0
    have hst : startS p days = 0 := by
      by_cases h : startS p days = 0
      · exact h
      · have := ask_start (v := v) h; rw [← HR.out.2.2.1] at this; exact absurd this.symm h
    have hvr : vright v = true := by
      have h5 := ask_right (v := v) hst
      rw [← HR.out.2.2.1] at h5
      cases hx : vright v
      · rw [hx] at h5; cases h5
      · rfl
    obtain ⟨hck, hl4, _⟩ := start_ok hst
    have k2 := rforce_any As cs p A c days w1 rd1.pol rd1.dys hck (by omega)
    obtain ⟨q0, q1, q2, q3, q4, zp⟩ := rd1.cells
    have H1 := Lib.hid (And.intro rd1 (And.intro k2 (And.intro hck (And.intro hvr hv1))))
    clear rd1 k2 hck hvr hst hv1
    go_wp2_with fail
    refine H1.out.2.1.mono ?_
    rintro e W2 ⟨Al, cl, rfl, h1, _, _, b2⟩
    have rd2 := H1.out.1.below b2
    have hv2 := (b2.block _ (heap_lt H1.out.2.2.2.2)).trans H1.out.2.2.2.2
    obtain ⟨F, hF⟩ : ∃ F, F = forceS p days := ⟨_, rfl⟩
    have hFl : F.length = days.length := by rw [hF, forceS_length]
    rw [← hF] at h1
    obtain ⟨L, hL⟩ : ∃ L, L = passesS p days v := ⟨_, rfl⟩
    have H2 := Lib.hid (And.intro h1 (And.intro rd2 (And.intro hv2 (And.intro hF (And.intro hFl hL)))))
    clear h1 b2 q0 q1 q2 q3 q4 zp rd2 hv2 hF hFl hL
    go_wp2_with fail
    go_loopw [9, 11, 12] (fun o la i wr => ∃ (k m : Nat) (Ao : Option Addr) (co : Nat) (q : List Nat), k ≤ days.length ∧ i = .int .i64 k ∧ la = .int .i64 (lastN L k) ∧ o = .slice Ao m co ∧ RWn W2 wr L k m Ao co q) (fun _ _ i _ => days.length - (intOf i).toNat)
    case atStart => exact ⟨0, 0, none, 0, [], Nat.zero_le _, rfl, rfl, rfl, rfl, OwnS.nil _ _ _, by simp, Keep.refl _ _⟩
    case round =>
      obtain ⟨k, m, Ao, co, q, hk, rfl, rfl, rfl, hst⟩ := hrel
      obtain ⟨la, hla⟩ : ∃ la, la = lastN L k := ⟨_, rfl⟩
      rw [← hla]
      have hlr := lastN_le L k
      rw [← hla] at hlr
      obtain ⟨hlr1, hlr2⟩ := hlr
      have hml : m ≤ 400 := by have := hst.len; have := winN_length L k; omega
      by_cases hlt : k < days.length
      · have bk : Below W2.heap.size W2 wr := hst.keep.below (Nat.le_refl _) (by simp)
        obtain ⟨bl, ol, rfl, zl, cl'⟩ := (H2.out.1.below bk).2 (by omega)
        have hfs := force_step H1.out.2.2.1 days k
        obtain ⟨j, hj⟩ := Int.eq_ofNat_of_zero_le hfs.1
        have cx := cl' k _ (ints_get (by rw [H2.out.2.2.2.2.1]; exact hlt))
        rw [H2.out.2.2.2.1, hj] at cx
        have hjl : j < p.steps.length := by have := hfs.2; omega
        have hjl' : (j : Int) < (p.steps.length : Int) := by omega
        obtain ⟨bs, os, rfl, hbs, p0, p1, p2, p3⟩ := (H2.out.2.1.below bk).step hjl
        obtain ⟨st, hst2⟩ : ∃ st, st = stp p j := ⟨_, rfl⟩
        rw [← hst2] at p0 p1 p2 p3
        obtain ⟨q0, q1, q2, q3, q4, zp⟩ := (H2.out.2.1.below bk).cells
        have hvw := (bk.block _ (heap_lt H2.out.2.2.1)).trans H2.out.2.2.1
        have v0 := (cell_of_heap hvw 0).trans rfl
        have v1 := (cell_of_heap hvw 1).trans rfl
        have v2 := (cell_of_heap hvw 2).trans rfl
        obtain ⟨b, hb⟩ : ∃ b, b = fulfils v st := ⟨_, rfl⟩
        have hbL : L.getD k false = b := by rw [H2.out.2.2.2.2.2, passes_get p days v hlt, hj, Int.toNat_natCast, hb, hst2]
        have hful : ∀ wx, Calls Tryz.prog 87 #[.agg #[.int .i64 v.cls, .int .i64 v.ton, .bool v.esc], .agg #[.int .i64 st.cls, .int .i64 st.ton, .int .i64 st.up, .int .i64 st.dn]] wx fun e w' => e = .returned (.bool b) ∧ Below wx.heap.size wx w' := fun wx => by
          rw [hb]; exact rfulfils_any v st wx (vright_cls H1.out.2.2.2.1)
        have KC : ∀ {b o : Nat} {u : Value}, wr.cell? ⟨b, o, none⟩ = some u → ∀ w', Below wr.heap.size wr w' → w'.cell? ⟨b, o, none⟩ = some u := fun h w' hb => (hb.cell (World.block_lt_of_cell? wr _ h)).trans h
        have q0' := KC q0
        have p0' := KC p0
        have p1' := KC p1
        have p2' := KC p2
        have p3' := KC p3
        have v0' := KC v0
        have v1' := KC v1
        have v2' := KC v2
        have cx' := KC cx
        have n1 : (0 : Int) ≤ (k : Int) := by omega
        have n2 : (k : Int) < (days.length : Int) := by omega
        have n3 : (0 : Int) ≤ (j : Int) := by omega
        have HS := Lib.hid (And.intro hst (And.intro hla (And.intro hbL hful)))
        clear hst hla hbL hful hfs hj hst2 KC p0 p1 p2 p3 q0 q1 q2 q3 q4 v0 v1 v2 cx cl' bk hvw hb
        cases b
        · go_upto_region 10 with fail
          go_region_held3 (fun w' => Below wr.heap.size wr w') (first | exact (Below.refl _ _).drew | assumption)
            ((go_at_call 87
              refine (HS.out.2.2.2 _).mono ?_
              rintro e w3 ⟨rfl, b3⟩
              have B3 : Below wr.heap.size wr w3 := (Below.refl _ _).drew.trans b3
              clear b3))
          go_wp2_with fail
          go_roundw
          case measure => simp [intOf]; omega
          case rel => exact ⟨k + 1, m, Ao, co, q, by omega, by go_num, by rw [(winN_no HS.out.2.2.1).2, HS.out.2.1], rfl, (HS.out.1.below B3).skip HS.out.2.2.1⟩
        · go_upto_region 10 with fail
          go_region_held3 (fun w' => Below wr.heap.size wr w') (first | exact (Below.refl _ _).drew | assumption)
            ((go_at_call 87
              refine (HS.out.2.2.2 _).mono ?_
              rintro e w3 ⟨rfl, b3⟩
              have B3 : Below wr.heap.size wr w3 := (Below.refl _ _).drew.trans b3
              clear b3))
          have hR := HS.out.1.below B3
          by_cases hgo : la = (k : Int) - 1
          · have hgb : (la == (k : Int) - 1) = true := by simpa using hgo
            have hl5 : lastN L k = (k : Int) - 1 := by rw [← HS.out.2.1]; exact hgo
            obtain ⟨m', rfl⟩ : ∃ m', m = m' + 1 := by
              obtain ⟨L', s, e1, _⟩ := winN_go HS.out.2.2.1 hl5
              have := hR.len; rw [e1] at this; simp at this
              exact ⟨L'.length, this⟩
            obtain ⟨g, u, rfl, zg, cg, fg, ng, hN⟩ := hR.set HS.out.2.2.1 hl5
            have HN := Lib.hid hN
            clear hN hR hl5 hgo B3 q0' p0' p1' p2' p3' v0' v1' v2' cx'
            go_wp2_with fail
            go_roundw
            case measure => simp [intOf]; omega
            case rel => exact ⟨k + 1, m' + 1, _, co, q, by omega, by go_num, by rw [lastN_yes HS.out.2.2.1], rfl, HN.out⟩
          · have hgb : (la == (k : Int) - 1) = false := by simpa using hgo
            have HN := Lib.hid (And.intro hR (show lastN L k ≠ (k : Int) - 1 from by rw [← HS.out.2.1]; exact hgo))
            clear hR hgo B3 q0' p0' p1' p2' p3' v0' v1' v2' cx'
            go_wp2_with (at_builtin
                         refine wpList_append_S (size := 2) rfl (.tmp 51) (.tmp 55) 46 rfl i0 _ 16 Tryz.underlying46 hi hz0 hz1 (by decide) hz2 rfl (A := Ao) (n := m) (c := co) (xs := spcs (winN L k)) (fp := q) (by simp [Act.eval]) ⟨w3.heap.size, 0, none⟩ (by simp [Act.eval]) [.int .i64 k, .int .i64 k] (HN.out.1.own.alloc _) rfl (spc_cells w3 k k _) (by simp [Value.oneCell']) (by omega) (by omega) ?_
                         intro g c' w5 h1 h2 h3 h4
                         have HQ := Lib.hid (HN.out.1.app HS.out.2.2.1 HN.out.2 h1 h2 h4)
                         clear h1 h2 h3 h4)
            go_roundw
            case measure => simp [intOf]; omega
            case rel => exact ⟨k + 1, m + 1, _, c', [g], by omega, by go_num, by rw [lastN_yes HS.out.2.2.1], rfl, HQ.out⟩
      · obtain rfl : k = days.length := by omega
        have HS := Lib.hid hst
        clear hst
        go_wp2_with fail
        go_ret2
        have hLL : windowsS p days v = winN L days.length := by unfold windowsS; rw [if_pos HR.out.2.2.1.symm, H2.out.2.2.2.2.2]
        refine ⟨Ao, co, by rw [hLL, ← HS.out.len, ← HR.out.2.2.1]; rfl, by rw [hLL]; have := HS.out.own.rd; rwa [HS.out.len] at this, H2.out.2.1.bel.trans (HS.out.keep.below H2.out.2.1.bel.size (by simp))⟩
  · have hne : (er != 0) = true := by simp [h0]
    have HK := Lib.hid (And.intro h0 rd1.bel)
    clear h0 rd1 hv1
    go_wp2_with fail
    go_ret2
    have hLL : windowsS p days v = [] := by unfold windowsS; rw [if_neg (by rw [← HR.out.2.2.1]; exact HK.out.1)]
    exact ⟨none, 0, by rw [hLL, ← HR.out.2.2.1]; rfl, by rw [hLL]; exact Rd.nil _ _ _, HK.out.2⟩
end Go.Proofs.YtbgnkljjgfcngaaGreat
/- polynyaref08: First -/
namespace Go.Proofs.YtbgnkljjgfcngaaGreat
open Go Go.RowKit Sp
set_option linter.unusedVariables false

theorem idx_at {t : Bool} {M : List Bool} {i : Nat} (hi : i < M.length) (h : ∀ j, j < i → M.getD j false ≠ t) (hy : M.getD i false = t) : idxL t M = i := by
  have e1 : M = M.take i ++ t :: M.drop (i + 1) := by
    have e2 : t = M[i] := by rw [← hy]; simp [hi]
    conv => lhs; rw [← List.take_append_drop i M, List.drop_eq_getElem_cons hi]
    rw [e2]
  have h' : ∀ x ∈ M.take i, t ≠ x := by
    intro x hx e
    obtain ⟨j, hj, rfl⟩ := List.mem_iff_getElem.1 hx
    rw [List.length_take] at hj
    apply h j (by omega)
    rw [List.getElem_take] at e
    rw [e]
    simp [show j < M.length from by omega]
  rw [e1, idxL_append h', List.length_take, Nat.min_eq_left (by omega)]
theorem idx_no {t : Bool} {M : List Bool} (h : ∀ j, j < M.length → M.getD j false ≠ t) : idxL t M = -1 := by
  refine idxL_none fun x hx e => ?_
  obtain ⟨j, hj, rfl⟩ := List.mem_iff_getElem.1 hx
  exact h j hj (by rw [e]; simp [hj])
theorem drop_getD (L : List Bool) (d j : Nat) : (L.drop d).getD j false = L.getD (d + j) false := by
  simp [List.getD_eq_getElem?_getD, List.getElem?_drop]

set_option maxRecDepth 100000 in
set_option maxHeartbeats 4000000 in
theorem rFirst_any (As : Option Addr) (cs : Nat) (p : Pol) (A : Option Addr) (c : Nat) (days : List Int) (v : Ves) (day : Int) (w : World) (hp : PolV w As cs p) (hr : Rd w 1 A days.length (ints days)) (hm : days.length ≤ 9223372036854775807) :
    Calls Tryz.prog 45 #[.agg #[.slice As p.steps.length cs, .int .i64 p.hold, .int .i64 p.calm, .int .i64 p.notice, .int .i64 p.grace], .slice A days.length c, .agg #[.int .i64 v.cls, .int .i64 v.ton, .bool v.esc], .int .i64 day] w
      fun e w' => e = .returned (.tuple #[.int .i64 (firN p days v day), .int .i64 (firE p days v day)]) ∧ Below w.heap.size w w' := by
  have rd0 := RD.new (A := A) (days := days) hp hr
  obtain ⟨W1, hW1⟩ : ∃ W, W = w.alloc (.cells #[.slice As p.steps.length cs, .int .i64 p.hold, .int .i64 p.calm, .int .i64 p.notice, .int .i64 p.grace] 65) := ⟨_, rfl⟩
  obtain ⟨ob, hob⟩ : ∃ ob, ob = w.heap.size := ⟨_, rfl⟩
  rw [← hW1, ← hob] at rd0
  obtain ⟨W, hW⟩ : ∃ W, W = W1.alloc (.cells #[.int .i64 v.cls, .int .i64 v.ton, .bool v.esc] 94) := ⟨_, rfl⟩
  obtain ⟨vb, hvb⟩ : ∃ vb, vb = W1.heap.size := ⟨_, rfl⟩
  have hvb2 : vb = ob + 1 := by rw [hvb, hW1, hob]; simp
  have hvh : W.heap[vb]? = some (.cells #[.int .i64 v.cls, .int .i64 v.ton, .bool v.esc] 94 (0, 0)) := by rw [hW, hvb]; exact heap_alloc_new _ _
  have rdW : RD w W ob As cs p A days := rd0.below (by rw [hW]; exact (Below.refl _ _).alloc (Nat.le_refl _) _)
  obtain ⟨er, her⟩ : ∃ er, er = askS p days v := ⟨_, rfl⟩
  have k1 := rasked_any As cs p A c days v W rdW.pol rdW.dys hm
  rw [← her] at k1
  obtain ⟨q0, q1, q2, q3, q4, zp⟩ := rdW.cells
  have v0 := (cell_of_heap hvh 0).trans rfl
  have v1 := (cell_of_heap hvh 1).trans rfl
  have v2 := (cell_of_heap hvh 2).trans rfl
  have HR := Lib.hid (And.intro rdW (And.intro k1 (And.intro her hvh)))
  clear hp hr rd0 rdW k1 her hvh hvb
  go_enter Tryz.func45, Tryz.ntmps45
  go_upto_region 1 with fail
  rw [← hW1, ← hob, ← hvb2, ← hW]
  clear hW hob hW1 hvb2
  go_wp2_with fail
  refine HR.out.2.1.mono ?_
  rintro e w1 ⟨rfl, b1⟩
  have rd1 := HR.out.1.below b1
  have hv1 := (b1.block _ (heap_lt HR.out.2.2.2)).trans HR.out.2.2.2
  have HB := Lib.hid rd1.bel
  clear q0 q1 q2 q3 q4 zp b1 v0 v1 v2
  by_cases h0 : er = 0
  · subst h0
    have hst : startS p days = 0 := by
      by_cases h : startS p days = 0
      · exact h
      · have := ask_start (v := v) h; rw [← HR.out.2.2.1] at this; exact absurd this.symm h
    have hvr : vright v = true := by
      have h5 := ask_right (v := v) hst
      rw [← HR.out.2.2.1] at h5
      cases hx : vright v
      · rw [hx] at h5; cases h5
      · rfl
    obtain ⟨hck, hl4, _⟩ := start_ok hst
    have k2 := rforce_any As cs p A c days w1 rd1.pol rd1.dys hck (by omega)
    have H1 := Lib.hid (And.intro rd1 (And.intro k2 (And.intro hck (And.intro hvr hv1))))
    clear rd1 k2 hck hvr hst hv1
    obtain ⟨dr, hdr⟩ : ∃ dr, dr = within day 0 ((days.length : Int) - 1) := ⟨_, rfl⟩
    have hin : ∀ wx, Calls Tryz.prog 72 #[.int .i64 day, .int .i64 0, .int .i64 ((days.length : Int) - 1)] wx fun e w' => e = .returned (.bool dr) ∧ wx = w' := fun wx => by rw [hdr]; exact rin_any day 0 _ wx
    have HD := Lib.hid (And.intro hdr hin)
    clear hdr hin
    cases dr
    · go_wp2_with (go_at_call 72; refine (HD.out.2 _).mono ?_; rintro e w2 ⟨rfl, rfl⟩)
      go_ret2
      have he : mayE p days v day = 6 := by rw [may_day HR.out.2.2.1.symm, ← HD.out.1]; rfl
      have hf := fir_may (p := p) (days := days) (v := v) (day := day) (by rw [he]; decide)
      exact ⟨by rw [hf.1, hf.2, he]; rfl, HB.out⟩
    · have hlt : 0 ≤ day ∧ day < days.length := by have := HD.out.1; simp [within] at this; omega
      obtain ⟨d, rfl⟩ : ∃ k : Nat, day = k := ⟨day.toNat, by omega⟩
      have hdl : d < days.length := by omega
      have hme : mayE p days v d = 0 := by rw [may_day HR.out.2.2.1.symm, ← HD.out.1]; rfl
      have HME := Lib.hid hme
      obtain ⟨q0, q1, q2, q3, q4, zp⟩ := H1.out.1.cells
      clear hme hlt
      go_wp2_with (go_at_call 72; refine (HD.out.2 _).mono ?_; rintro e w2 ⟨rfl, rfl⟩)
      refine H1.out.2.1.mono ?_
      rintro e W2 ⟨Al, cl, rfl, h1, _, _, b2⟩
      have rd2 := H1.out.1.below b2
      have hv2 := (b2.block _ (heap_lt H1.out.2.2.2.2)).trans H1.out.2.2.2.2
      obtain ⟨F, hF⟩ : ∃ F, F = forceS p days := ⟨_, rfl⟩
      have hFl : F.length = days.length := by rw [hF, forceS_length]
      rw [← hF] at h1
      obtain ⟨L, hL⟩ : ∃ L, L = passesS p days v := ⟨_, rfl⟩
      have hLl : L.length = days.length := by rw [hL, passesS_length]
      have H2 := Lib.hid (And.intro h1 (And.intro rd2 (And.intro hv2 (And.intro hF (And.intro hFl (And.intro hL hLl))))))
      clear h1 b2 q0 q1 q2 q3 q4 zp rd2 hv2 hF hFl hL hLl
      go_wp2_with fail
      go_loopw [12] (fun i wr => ∃ k : Nat, d ≤ k ∧ k ≤ days.length ∧ i = .int .i64 k ∧ (∀ j, d ≤ j → j < k → L.getD j false = false) ∧ Below W2.heap.size W2 wr) (fun i _ => days.length - (intOf i).toNat)
      case atStart => exact ⟨d, Nat.le_refl _, by omega, rfl, fun j h1 h2 => by omega, Below.refl _ _⟩
      case round =>
        obtain ⟨k, hdk, hk, rfl, hall, bk⟩ := hrel
        have HA := Lib.hid (And.intro hall bk)
        clear hall
        by_cases hlt : k < days.length
        · obtain ⟨bl, ol, rfl, zl, cl'⟩ := (H2.out.1.below bk).2 (by omega)
          have hfs := force_step H1.out.2.2.1 days k
          obtain ⟨j, hj⟩ := Int.eq_ofNat_of_zero_le hfs.1
          have cx := cl' k _ (ints_get (by rw [H2.out.2.2.2.2.1]; exact hlt))
          rw [H2.out.2.2.2.1, hj] at cx
          have hjl : j < p.steps.length := by have := hfs.2; omega
          have hjl' : (j : Int) < (p.steps.length : Int) := by omega
          obtain ⟨bs, os, rfl, hbs, p0, p1, p2, p3⟩ := (H2.out.2.1.below bk).step hjl
          obtain ⟨st, hst2⟩ : ∃ st, st = stp p j := ⟨_, rfl⟩
          rw [← hst2] at p0 p1 p2 p3
          obtain ⟨q0, q1, q2, q3, q4, zp⟩ := (H2.out.2.1.below bk).cells
          have hvw := (bk.block _ (heap_lt H2.out.2.2.1)).trans H2.out.2.2.1
          have v0 := (cell_of_heap hvw 0).trans rfl
          have v1 := (cell_of_heap hvw 1).trans rfl
          have v2 := (cell_of_heap hvw 2).trans rfl
          obtain ⟨b, hb⟩ : ∃ b, b = fulfils v st := ⟨_, rfl⟩
          have hbL : L.getD k false = b := by rw [H2.out.2.2.2.2.2.1, passes_get p days v hlt, hj, Int.toNat_natCast, hb, hst2]
          have hful : ∀ wx, Calls Tryz.prog 87 #[.agg #[.int .i64 v.cls, .int .i64 v.ton, .bool v.esc], .agg #[.int .i64 st.cls, .int .i64 st.ton, .int .i64 st.up, .int .i64 st.dn]] wx fun e w' => e = .returned (.bool b) ∧ Below wx.heap.size wx w' := fun wx => by
            rw [hb]; exact rfulfils_any v st wx (vright_cls H1.out.2.2.2.1)
          have KC : ∀ {b o : Nat} {u : Value}, wr.cell? ⟨b, o, none⟩ = some u → ∀ w', Below wr.heap.size wr w' → w'.cell? ⟨b, o, none⟩ = some u := fun h w' hb => (hb.cell (World.block_lt_of_cell? wr _ h)).trans h
          have q0' := KC q0
          have p0' := KC p0
          have p1' := KC p1
          have p2' := KC p2
          have p3' := KC p3
          have v0' := KC v0
          have v1' := KC v1
          have v2' := KC v2
          have cx' := KC cx
          have n1 : (0 : Int) ≤ (k : Int) := by omega
          have n2 : (k : Int) < (days.length : Int) := by omega
          have n3 : (0 : Int) ≤ (j : Int) := by omega
          have HS := Lib.hid (And.intro hbL hful)
          clear hbL hful hfs hj hst2 KC p0 p1 p2 p3 q0 q1 q2 q3 q4 v0 v1 v2 cx cl' bk hvw hb
          cases b
          all_goals
            go_upto_region 10 with fail
            go_region_held3 (fun w' => Below wr.heap.size wr w') (first | exact (Below.refl _ _).drew | assumption)
              ((go_at_call 87
                refine (HS.out.2 _).mono ?_
                rintro e w3 ⟨rfl, b3⟩
                have B3 : Below wr.heap.size wr w3 := (Below.refl _ _).drew.trans b3
                clear b3))
          · go_wp2_with fail
            go_roundw
            case measure => simp [intOf]; omega
            case rel => exact ⟨k + 1, by omega, by omega, by go_num, fun j h1 h2 => by
              by_cases e : j = k
              · subst e; exact HS.out.1
              · exact HA.out.1 j h1 (by omega), HA.out.2.trans (B3.mono HA.out.2.size)⟩
          · go_wp2_with fail
            go_ret2
            have hix : firI p days v d = (k : Int) - d := by
              rw [firI, ← H2.out.2.2.2.2.2.1, Int.toNat_natCast, idx_at (t := true) (i := k - d) (by rw [List.length_drop, H2.out.2.2.2.2.2.2]; omega) (fun j hj => by rw [drop_getD, HA.out.1 (d + j) (by omega) (by omega)]; decide) (by rw [drop_getD, show d + (k - d) = k from by omega]; exact HS.out.1)]
              omega
            have hf := fir_some HME.out (show 0 ≤ firI p days v d from by omega)
            refine ⟨by rw [hf.1, hf.2, hix, show (d : Int) + ((k : Int) - d) = k from by omega]; rfl, H2.out.2.1.bel.trans ((HA.out.2.trans (B3.mono HA.out.2.size)).mono H2.out.2.1.bel.size)⟩
        · obtain rfl : k = days.length := by omega
          clear bk
          go_wp2_with fail
          go_ret2
          have hix : firI p days v d = -1 := by
            rw [firI, ← H2.out.2.2.2.2.2.1, Int.toNat_natCast, idx_no (fun j hj => by rw [List.length_drop, H2.out.2.2.2.2.2.2] at hj; rw [drop_getD, HA.out.1 (d + j) (by omega) (by omega)]; decide)]
          have hf := fir_none HME.out (show firI p days v d < 0 from by omega)
          exact ⟨by rw [hf.1, hf.2]; rfl, H2.out.2.1.bel.trans (HA.out.2.mono H2.out.2.1.bel.size)⟩
  · have hne : (er != 0) = true := by simp [h0]
    have HK := Lib.hid h0
    clear h0 rd1 hv1
    go_wp2_with fail
    go_ret2
    have he : mayE p days v day = er := by rw [may_ask (by rw [← HR.out.2.2.1]; exact HK.out), HR.out.2.2.1]
    have hf := fir_may (p := p) (days := days) (v := v) (day := day) (by rw [he]; exact HK.out)
    exact ⟨by rw [hf.1, hf.2, he]; rfl, HB.out⟩
end Go.Proofs.YtbgnkljjgfcngaaGreat
