import Derived.Test.YthmldeningpjbaaPRp9
import Derived.Deep.DeepCutAuto
import Derived.Test.YthmldeningpjbaaPRp1
import Derived.Test.YthmldeningpjbaaPRp0
import Derived.Test.YthmldeningpjbaaPRp5
import Derived.Test.YthmldeningpjbaaPRp6
set_option linter.unusedVariables false
set_option linter.unusedSimpArgs false
set_option maxRecDepth 100000
set_option maxHeartbeats 40000000
namespace Go.Proofs.Ythmldeningpjbaa
open Go Go.RowKit Sp Pt
theorem infoRChn : (Try.prog.info? 171).map (fun i => (i.zero, i.size, i.bytes)) = some (some (.agg #[.int .i64 0, .int .i64 0, .int .i64 0]), 3, 24) := by kernel_rfl
theorem infoRBrt : (Try.prog.info? 172).map (fun i => (i.zero, i.size, i.bytes)) = some (some (.agg #[.int .i64 0, .slice none 0 0]), 2, 32) := by kernel_rfl
theorem Own.upd2 {D : Nat} {W0 w w' : World} {L : List It} (h : Own D W0 L w) (kb ko : Nat) {ob : Nat} {o o' : Obj} {i i' : It} (hb : L[kb]? = some (.blk ob o)) (ho : L[ko]? = some i) (hbo : kb ≠ ko) (hk : Keep (ob :: i.fp) w w') (hh1 : w'.heap[ob]? = some o') (hh2 : i'.holds D w') (hf : ∀ x ∈ i'.fp, x ∈ i.fp ∨ w.heap.size ≤ x) :
    Own D W0 ((L.set kb (.blk ob o')).set ko i') w' := by
  have hkb : kb < L.length := (List.getElem?_eq_some_iff.1 hb).1;have hko : ko < L.length := (List.getElem?_eq_some_iff.1 ho).1;have hget : ∀ {a : Nat} {j : It}, ((L.set kb (.blk ob o')).set ko i')[a]? = some j → (a = ko ∧ j = i') ∨ (a ≠ ko ∧ a = kb ∧ j = .blk ob o') ∨ (a ≠ ko ∧ a ≠ kb ∧ L[a]? = some j) := fun {a j} hj => by
    rw [List.getElem?_set] at hj;by_cases e : ko = a
    · rw [if_pos e, if_pos (by simpa using hko)] at hj;injection hj with hj
      exact .inl ⟨e.symm, hj.symm⟩
    · rw [if_neg e, List.getElem?_set] at hj;by_cases e2 : kb = a
      · rw [if_pos e2, if_pos hkb] at hj;injection hj with hj
        exact .inr (.inl ⟨fun q => e q.symm, e2.symm, hj.symm⟩)
      · rw [if_neg e2] at hj;exact .inr (.inr ⟨fun q => e q.symm, fun q => e2 q.symm, hj⟩)
  refine h.updF _ (fun a => a = kb ∨ a = ko) ko hk (fun x hx => .inl ?_) (fun a j hj => ?_) (fun a j hj hc => ?_)
  · rcases List.mem_cons.1 hx with rfl | hx
    · exact ⟨kb, _, .inl rfl, hb, by simp [It.fp]⟩
    · exact ⟨ko, _, .inr rfl, ho, hx⟩
  · rcases hget hj with ⟨e, _⟩ | ⟨_, e, _⟩ | ⟨_, _, e⟩
    · exact .inl (.inr e)
    · exact .inl (.inl e)
    · exact .inr e
  · rcases hget hj with ⟨e, rfl⟩ | ⟨_, e, rfl⟩ | ⟨e1, e2, e⟩
    · refine ⟨hh2, fun x hx => ?_⟩;rcases hf x hx with q | q
      · exact .inl ⟨i, by rw [e]; exact ho, q⟩
      · exact .inr ⟨e, q⟩
    · exact ⟨hh1, fun x hx => .inl ⟨.blk ob o, by rw [e]; exact hb, hx⟩⟩
    · rcases hc with rfl | rfl
      · exact absurd rfl e2
      · exact absurd rfl e1
def PcvV (ob yb k c m ck : Nat) (d : Int) (A Ak : Option Addr) (s : ApcS) : Nat → Value → Prop
  | 0, v => v = .pointer (some ⟨ob, 1, none⟩)
  | 1, v => v = .slice A k c
  | 2, v => v = .pointer (some ⟨yb, 0, none⟩)
  | 3, v => v = .int .i64 d
  | 4, v => v = .pointer (some ⟨yb, 1, none⟩)
  | 5, v => v = .slice Ak m ck
  | 6, v => v = .slice s.A1 m s.c1
  | 7, v => v = .agg #[.int .i64 d, .slice s.A1 m s.c1]
  | 8, v => v = .slice (some ⟨s.bs, 0, none⟩) 1 1
  | 9, v => v = .slice s.A (k + 1) s.c
  | 10, v => v = .pointer (some ⟨ob, 1, none⟩)
  | _, _ => True
theorem portR_any (Ac : Option Addr) (cc : Nat) (Ab : Option Addr) (cb : Nat) (p : Prt) (w : World) (hp : PrtB w.heap.size w Ac cc Ab cb p) (hl : p.chs.length ≤ 1000) (hs : p.bts.length ≤ 1000) (hpl : ∀ b ∈ p.bts, b.path.length ≤ 1000) :
    Calls Try.prog 34 #[.agg (prtV Ac cc Ab cb p)] w (NewPrt w p) := by
  obtain ⟨i0, hi0, hz0, hz1, hz2⟩ := info_parts infoRChn;obtain ⟨i1, hi1, hy0, hy1, hy2⟩ := info_parts infoRBrt;obtain ⟨pb, hpb⟩ : ∃ b, b = w.heap.size := ⟨_, rfl⟩;obtain ⟨rb, hrb⟩ : ∃ b, b = w.heap.size + 1 := ⟨_, rfl⟩;obtain ⟨ob, hob⟩ : ∃ b, b = w.heap.size + 1 + 1 := ⟨_, rfl⟩;obtain ⟨W, hW⟩ : ∃ W, W = (((w.alloc (.cells (prtV Ac cc Ab cb p) 26)).alloc (.cells #[.slice none 0 0, .slice none 0 0, .int .i64 0] 79)).alloc (.cells #[.slice none 0 0, .slice none 0 0, .int .i64 p.tugs] 79)) := ⟨_, rfl⟩;have O0 : Own w.heap.size w [.blk pb (.cells (prtV Ac cc Ab cb p) 26), .blk rb (.cells #[.slice none 0 0, .slice none 0 0, .int .i64 0] 79), .blk ob (.cells #[.slice none 0 0, .slice none 0 0, .int .i64 p.tugs] 79),
      .own 171 3 none 0 0 [] [], .own 172 2 none 0 0 [] []] W := by
    have h := ((((Own.start w).alloc (.cells (prtV Ac cc Ab cb p) 26)).alloc (.cells #[.slice none 0 0, .slice none 0 0, .int .i64 0] 79)).alloc (.cells #[.slice none 0 0, .slice none 0 0, .int .i64 p.tugs] 79));have h2 := (h.new (i := .own 171 3 none 0 0 [] []) (Below.refl _ _) (OwnS.nil _ _ _) (by simp [It.fp])).new (i := .own 172 2 none 0 0 [] []) (Below.refl _ _) (OwnS.nil _ _ _) (by simp [It.fp]);rw [hW, hpb, hrb, hob];simpa using h2
  have HP := Lib.hid (And.intro hp (And.intro O0 hpl));clear hp O0 hpl
  go_enter Try.func34, Try.ntmps34
  go_wp2_with fail
  rw [← hW, ← hob, ← hrb, ← hpb];clear hW hob hrb hpb
  go_loopg [14] (p.chs.length) (fun g i wr => ∃ (k : Nat) (A : Option Addr) (c : Nat) (q : List Nat), g + k = p.chs.length ∧ i = .int .i64 k ∧
    Own w.heap.size w [.blk pb (.cells (prtV Ac cc Ab cb p) 26), .blk rb (.cells #[.slice none 0 0, .slice none 0 0, .int .i64 0] 79), .blk ob (.cells #[.slice A k c, .slice none 0 0, .int .i64 p.tugs] 79),
      .own 171 3 A k c (chcs (p.chs.take k)) q, .own 172 2 none 0 0 [] []] wr)
  case atStart => exact ⟨0, none, 0, [], rfl, rfl, HP.out.2.1⟩
  case round =>
    obtain ⟨k, A, c, q, hk, rfl, hO⟩ := hrel;have o1 := (cOH (hO.heap 2 rfl) 0).trans rfl;have zo := hL_ (hO.heap 2 rfl);by_cases hlt : k < p.chs.length
    · obtain ⟨b, off, rfl, hb, hc⟩ := ((HP.out.1.chs).below hO.bel).2 (by omega);obtain ⟨s0, s1, s2⟩ := chcs_get hlt;have c0 := hc _ _ s0;have c1 : wr.cell? ⟨b, off + k * 3 + 1, none⟩ = _ := hc _ _ s1;have c2 : wr.cell? ⟨b, off + k * 3 + 2, none⟩ = _ := hc _ _ s2;obtain ⟨x, hx⟩ : ∃ x, x = p.chs[k] := ⟨_, rfl⟩;rw [← hx] at c0 c1 c2;have n2 : (k : Int) < (p.chs.length : Int) := by omega
      have HS := Lib.hid (And.intro hO hx);clear hc s0 s1 s2 hO hx
      go_wp2_with (at_builtin
                   refine wpList_append_S (size := 3) rfl (.tmp 19) (.tmp 21) 76 rfl i0 _ 24 Try.underlying76 hi0 hz0 hz1 (by decide) hz2 rfl (A := A) (n := k) (c := c) (xs := chcs (p.chs.take k)) (fp := q) (by simp [Act.eval]) ⟨wr.heap.size + 1, 0, none⟩ (by simp [Act.eval]) (chc x) (((HS.out.1.owns 3 rfl).alloc _).alloc _) rfl ?_ (by simp [chc, Value.oneCell']) (by omega) (by omega) ?_
                   · intro j v hv;rw [show (⟨wr.heap.size + 1, 0, none⟩ : Addr).add j = ⟨wr.heap.size + 1, j, none⟩ from by simp [Addr.add]; omega];have := World.cell?_alloc_new (wr.alloc (.cells #[.int .i64 x.grow, .int .i64 x.frost, .int .i64 x.clear] 144)) #[.int .i64 x.grow, .int .i64 x.frost, .int .i64 x.clear] 171 j;rw [World.size_alloc] at this;rw [this];simpa [chc] using hv
                   intro g c' w5 h1 h2 h3 h4;rw [HS.out.2, chcs_snoc hlt] at h1;have hq := HS.out.1.app3 2 3 rfl rfl (by decide) (((Below.refl _ _).alloc (Nat.le_refl _) _).alloc (by simp) _) h1 h2 h4 0 (.slice (some ⟨g, 0, none⟩) (k + 1) c');have d0 : w5.cell? ⟨ob, 0, none⟩ = some (.slice A k c) := (cOH hq.1 0).trans rfl;have d1 := fOH hq.1 0;have HQ := Lib.hid hq.2;clear h1 h2 h3 h4 hq)
      go_roundg (gk - 1);case measure => omega
      case rel => exact ⟨k + 1, some ⟨g, 0, none⟩, c', [g], by omega, by go_num, HQ.out⟩
    · obtain rfl : k = p.chs.length := by omega
      rw [List.take_length] at hO;have HS := Lib.hid hO;have p2 := (cOH (hO.heap 0 rfl) 1).trans rfl;have zp := hL_ (hO.heap 0 rfl);clear hO o1 zo;obtain ⟨w1, hw1⟩ : ∃ w1, w1 = wr := ⟨_, rfl⟩;subst hw1;obtain ⟨Ac1, hA1⟩ : ∃ A1, A1 = A := ⟨_, rfl⟩;obtain ⟨cc1, hc1⟩ : ∃ c1, c1 = c := ⟨_, rfl⟩;obtain ⟨q1, hq1⟩ : ∃ q1, q1 = q := ⟨_, rfl⟩;subst hA1 hc1 hq1;go_wp2_with fail
      go_loopg [28] (p.bts.length) (fun g i wr => ∃ (k : Nat) (A : Option Addr) (c : Nat) (q : List Nat) (L : List BrR), g + k = p.bts.length ∧ i = .int .i64 k ∧ L.map (·.b) = p.bts.take k ∧ PathsN (rb :: ob :: (q ++ List.range w.heap.size)) wr L ∧
        Own w.heap.size w [.blk pb (.cells (prtV Ac cc Ab cb p) 26), .blk rb (.cells #[.slice none 0 0, .slice none 0 0, .int .i64 0] 79), .blk ob (.cells #[.slice Ac1 p.chs.length cc1, .slice A k c, .int .i64 p.tugs] 79), .own 171 3 Ac1 p.chs.length cc1 (chcs p.chs) q1, .own 172 2 A k c (brcs L) q] wr)
      case atStart => exact ⟨0, none, 0, [], [], rfl, rfl, rfl, fun y hy => absurd hy (by simp), HS.out⟩
      case round =>
        obtain ⟨k, A, c, q, L, hk, rfl, hLb, hP, hO⟩ := hrel;have o2 := (cOH (hO.heap 2 rfl) 1).trans rfl;have zo := hL_ (hO.heap 2 rfl);by_cases hlt : k < p.bts.length
        · obtain ⟨b, off, Ak, ck, rfl, hbD, d1, d2, d3⟩ := HP.out.1.bts k hlt;have e1 := (hO.bel.cell (p := ⟨b, off + k * 2, none⟩) (show b < w.heap.size by omega)).trans d1;have e2 := (hO.bel.cell (p := ⟨b, off + k * 2 + 1, none⟩) (show b < w.heap.size by omega)).trans d2;have hyp := HP.out.2.2 _ (List.getElem_mem hlt);obtain ⟨⟨d, path⟩, hx⟩ : ∃ x, x = p.bts[k] := ⟨_, rfl⟩;rw [← hx] at e1 e2 d3 hyp;simp only at e1 e2 d3 hyp;obtain ⟨m, hm⟩ : ∃ m, m = path.length := ⟨_, rfl⟩;rw [← hm] at e2 hyp;have zb : b < wr.heap.size := by have := hO.bel.size; omega
          have zp' := hL_ (hO.heap 0 rfl);have n2 : (k : Int) < (p.bts.length : Int) := by omega
          have HS2 := Lib.hid (And.intro hLb (And.intro hP (And.intro hO (And.intro hx (And.intro hm d3)))));clear hLb hP hO hx d3 d1 d2 o2 hm;go_upto_region 10 with fail
          obtain ⟨yb, hyb⟩ : ∃ b, b = wr.heap.size := ⟨_, rfl⟩;obtain ⟨X, hX⟩ : ∃ X, X = wr.alloc (.cells #[.int .i64 d, .slice Ak m ck] 53) := ⟨_, rfl⟩;rw [← hX, ← hyb];obtain ⟨hLb, hP, hO, hx, hm, d3⟩ := HS2.out;have bX : Below wr.heap.size wr X := by rw [hX]; exact (Below.refl _ _).alloc (Nat.le_refl _) _
          have OX := hO.below bX;have hq := fun x (hx : x ∈ q) => hO.lt 4 rfl (x := x) hx;have y0 : X.cell? ⟨yb, 0, none⟩ = some (.int .i64 d) := by rw [hX, hyb]; exact (cOH (heap_alloc_new wr _) 0).trans rfl
          have y1 : X.cell? ⟨yb, 1, none⟩ = some (.slice Ak m ck) := by rw [hX, hyb]; exact (cOH (heap_alloc_new wr _) 1).trans rfl
          have zy : yb < X.heap.size := by rw [hX, hyb]; simp
          have hyo : yb ∉ ob :: q := by rw [hyb]; intro hm'; rcases List.mem_cons.1 hm' with e | e; (have := hO.lt 2 rfl (x := ob) (by simp [It.fp]); omega); (have := hq _ e; omega)
          have O : ApcOk ⟨ob, 172, 2, k, A, c, brcs L, q, path, 3, (fun A1 c1 => [.int .i64 d, .slice A1 m c1]), #[.slice Ac1 p.chs.length cc1, .slice A k c, .int .i64 p.tugs], (fun A c => #[.slice Ac1 p.chs.length cc1, .slice A (k + 1) c, .int .i64 p.tugs]), 79⟩ X := ⟨OX.owns 4 rfl, OX.heap 2 rfl, fun hm' => OX.dis 2 4 _ _ rfl rfl (by decide) ob (by simp [It.fp]) hm'⟩;have CI : ∀ wx, Keep (ob :: q) X wx → Calls Try.prog 87 #[.slice Ak m ck] wx fun e w' => ∃ A1 c1 q1, e = .returned (.slice A1 m c1) ∧ OwnA w' 3 A1 path.length c1 (ints path) q1 ∧ (∀ g ∈ q1, wx.heap.size ≤ g) ∧ Below wx.heap.size wx w' := by
            intro wx hk;have hB := OX.bel.trans (hk.below OX.lo (fun x hx => by rcases List.mem_cons.1 hx with e | e; (rw [e]; exact OX.ge 2 rfl (by simp [It.fp])); exact OX.ge 4 rfl (x := x) e));rw [hm];exact copyIntsO_any Ak ck path wx ((d3.below hB).1.rd hB.size) (by omega)
          have HX := Lib.hid (And.intro O (And.intro y0 (And.intro y1 (And.intro hyo CI))));have HO2 := Lib.hid (And.intro OX (And.intro (hP.below bX) (And.intro hLb (And.intro hx hm))));have zX := hL_ (OX.heap 2 rfl);have zX1 := hL_ (OX.heap 1 rfl);have zX0 := hL_ (OX.heap 0 rfl);clear hLb hP hO hx hm d3 bX OX hq y0 y1 hyo O CI hX hyb zo zb zp' e1 e2;refine wRS (σ := ApcS) (by kernel_rfl) (by kernel_rfl) (fun sg jx vx _ => PcvV ob yb k c m ck d A Ak sg jx vx) (fun sg ly wx => ApcW ⟨ob, 172, 2, k, A, c, brcs L, q, path, 3, (fun A1 c1 => [.int .i64 d, .slice A1 m c1]), #[.slice Ac1 p.chs.length cc1, .slice A k c, .int .i64 p.tugs], (fun A c => #[.slice Ac1 p.chs.length cc1, .slice A (k + 1) c, .int .i64 p.tugs]), 79⟩ 6 8 9 11 X sg ly wx) ⟨none, 0, [], 0, none, 0, 0⟩ ?_ ?_ ?_
          · exact HX.out.1.start
          · simp only [AllFrom, Nat.zero_add, Nat.reduceAdd];refine ⟨?_, ?_, ?_, ?_, ?_, ?_, ?_, ?_, ?_, ?_, ?_, ?_, trivial⟩
            · refine sP_ fun sg ly a wx hl hd hW hF => ?_;have et3 := hF.old 3 (by kernel_rfl);simp [Act.eval] at et3;exact ⟨hW.other 0 (by decide) (by decide) (by decide) (by decide), .pointer (some ⟨ob, 1, none⟩), by go_simp, rfl⟩
            · refine sP_ fun sg ly a wx hl hd hW hF => ?_;simp [Region.binds] at hd;have et32 := hF.new 0 32 (by simp [hd]) rfl;simp [PcvV, Act.eval] at et32;have nS_9 := hF.notYet 1 9 hl (by kernel_rfl);have nS := hF.notYet 9 11 nS_9 (by kernel_rfl);have hh := hW.hob;rw [if_neg (by simp [nS])] at hh;have cL := (cOH hh 1).trans rfl;have zL := hL_ hh;exact ⟨hW.other 1 (by decide) (by decide) (by decide) (by decide), _, by go_simp, rfl⟩
            · refine sP_ fun sg ly a wx hl hd hW hF => ?_;have et7 := hF.old 7 (by kernel_rfl);simp [Act.eval] at et7;exact ⟨hW.other 2 (by decide) (by decide) (by decide) (by decide), .pointer (some ⟨yb, 0, none⟩), by go_simp, rfl⟩
            · refine sP_ fun sg ly a wx hl hd hW hF => ?_;simp [Region.binds] at hd;have et34 := hF.new 2 34 (by simp [hd]) rfl;simp [PcvV, Act.eval] at et34;have cL := hW.kp.cell HX.out.2.1 HX.out.2.2.2.1;exact ⟨hW.other 3 (by decide) (by decide) (by decide) (by decide), .int .i64 d, by go_simp, rfl⟩
            · refine sP_ fun sg ly a wx hl hd hW hF => ?_;have et7 := hF.old 7 (by kernel_rfl);simp [Act.eval] at et7;exact ⟨hW.other 4 (by decide) (by decide) (by decide) (by decide), .pointer (some ⟨yb, 1, none⟩), by go_simp, rfl⟩
            · refine sP_ fun sg ly a wx hl hd hW hF => ?_;simp [Region.binds] at hd;have et36 := hF.new 4 36 (by simp [hd]) rfl;simp [PcvV, Act.eval] at et36;have cL := hW.kp.cell HX.out.2.2.1 HX.out.2.2.2.1;exact ⟨hW.other 5 (by decide) (by decide) (by decide) (by decide), .slice Ak m ck, by go_simp, rfl⟩
            · refine sC_ fun sg ly a wx hl hd hW hF => ?_;simp [Region.binds] at hd;have et37 := hF.new 5 37 (by simp [hd]) rfl;simp [PcvV, Act.eval] at et37;have n7 := hF.notYet 6 7 hl (by kernel_rfl);have n8_7 := hF.notYet 6 7 hl (by kernel_rfl);have n8 := hF.notYet 7 8 n8_7 (by kernel_rfl);have n9_7 := hF.notYet 6 7 hl (by kernel_rfl);have n9_8 := hF.notYet 7 8 n9_7 (by kernel_rfl);have n9 := hF.notYet 8 9 n9_8 (by kernel_rfl);refine ⟨87, #[.slice Ak m ck], by go_simp, ?_⟩;refine (HX.out.2.2.2.2 wx hW.kp).mono ?_;rintro e w2 ⟨A', c', q', rfl, h1, h2, h3⟩;refine ⟨_, { sg with A1 := A', c1 := c', q1 := q' }, rfl, hW.call HX.out.1 (by decide) n8 n9 h1 h2 h3, rfl, ?_⟩;intro i u hi h;have i6 : i ≠ 6 := by rintro rfl; rw [hl] at hi; cases hi
              have i7 : i ≠ 7 := by rintro rfl; rw [n7] at hi; cases hi
              unfold PcvV at h ⊢;split at h <;> first | exact h | exact absurd rfl i6 | exact absurd rfl i7
            · refine sP_ fun sg ly a wx hl hd hW hF => ?_;simp [Region.binds] at hd;have et35 := hF.new 3 35 (by simp [hd]) rfl;simp [PcvV, Act.eval] at et35;have et38 := hF.new 6 38 (by simp [hd]) rfl;simp [PcvV, Act.eval] at et38;exact ⟨hW.other 7 (by decide) (by decide) (by decide) (by decide), .agg #[.int .i64 d, .slice sg.A1 m sg.c1], by go_simp, rfl⟩
            · refine sR_ fun sg ly a wx hl hd hW hF => ?_;simp [Region.binds] at hd;have et39 := hF.new 7 39 (by simp [hd]) rfl;simp [PcvV, Act.eval] at et39;have n9 := hF.notYet 8 9 hl (by kernel_rfl);refine ⟨_, wx.alloc (.cells #[.int .i64 d, .slice sg.A1 m sg.c1] 172), { sg with bs := wx.heap.size }, by go_simp, hW.build (by decide) n9, rfl, ?_⟩;intro i u hi h;have i8 : i ≠ 8 := by rintro rfl; rw [hl] at hi; cases hi
              unfold PcvV at h ⊢;split at h <;> first | exact h | exact absurd rfl i8
            · intro sg ly a wx hl hd hW hF;simp [Region.binds] at hd;have et33 := hF.new 1 33 (by simp [hd]) rfl;simp [PcvV, Act.eval] at et33;have et40 := hF.new 8 40 (by simp [hd]) rfl;simp [PcvV, Act.eval] at et40;have nS := hF.notYet 9 11 hl (by kernel_rfl);have yB : ly 8 = true := by simp [hd]
              refine hW.at_append HX.out.1 (.tmp 33) (.tmp 40) 77 rfl i1 _ 32 Try.underlying77 hi1 hy0 hy1 (show (0 : Nat) < 2 from by decide) hy2 rfl (by simpa [Act.eval] using et33) (by simpa [Act.eval] using et40) rfl (by intro u hu; simp at hu; rcases hu with rfl | rfl <;> rfl) (by simp only; omega) (by omega) (by decide) yB hl nS ?_;intro g c' w' h';refine ⟨{ sg with A := some ⟨g, 0, none⟩, c := c', g := g }, _, rfl, h', fun _ => rfl, ?_⟩;intro i u hi h;have i9 : i ≠ 9 := by rintro rfl; rw [hl] at hi; cases hi
              unfold PcvV at h ⊢;split at h <;> first | exact h | exact absurd rfl i9
            · refine sP_ fun sg ly a wx hl hd hW hF => ?_;have et3 := hF.old 3 (by kernel_rfl);simp [Act.eval] at et3;exact ⟨hW.other 10 (by decide) (by decide) (by decide) (by decide), .pointer (some ⟨ob, 1, none⟩), by go_simp, rfl⟩
            · refine sS_ rfl fun sg ly a wx hl hd hW hF => ?_;simp [Region.binds] at hd;have et42 := hF.new 10 42 (by simp [hd]) rfl;simp [PcvV, Act.eval] at et42;have et41 := hF.new 9 41 (by simp [hd]) rfl;simp [PcvV, Act.eval] at et41;have yA : ly 9 = true := by simp [hd]
              have hh := hW.hob;rw [if_neg (by simp [hl])] at hh;have cL := (cOH hh 1).trans rfl;have fL := fOH hh 1;have zL := hL_ hh;exact ⟨_, sg, .skip, by go_simp, .inl rfl, hW.store HX.out.1 (by decide) 1 (fun _ _ => rfl) yA hl, fun _ _ _ h => h⟩
          intro sg af w5 hWW hF;obtain ⟨ff, hf, rfl⟩ := hF.lit;obtain ⟨p1, p2⟩ := hWW.pth rfl;obtain ⟨o1, o2, o3⟩ := hWW.own1 rfl;have o3 := o3 rfl;have hob5 := hWW.hob;have k5 := hWW.kp;simp only [List.length_cons, List.length_nil, Nat.reduceAdd, Nat.reduceLT, decide_true, if_true] at hob5;obtain ⟨hO, hP, hLb, hx, hm⟩ := HO2.out;simp only at o1 o2 p1;have e1 : brcs L ++ [.int .i64 d, .slice sg.A1 m sg.c1] = brcs (L ++ [(⟨⟨d, path⟩, sg.A1, sg.c1⟩ : BrR)]) := by simp [brcs, brc, hm]
          rw [e1] at o1;have hN := And.intro (hO.upd2 2 4 rfl rfl (by decide) k5 hob5 (i' := .own 172 2 sg.A (k + 1) sg.c (brcs (L ++ [(⟨⟨d, path⟩, sg.A1, sg.c1⟩ : BrR)])) [sg.g]) (show OwnS _ _ _ _ _ _ _ _ from o1) (fun x hx => by rw [List.mem_singleton.1 hx]; exact o2))
            (And.intro (show PathsN (rb :: ob :: ([sg.g] ++ List.range w.heap.size)) w5 (L ++ [(⟨⟨d, path⟩, sg.A1, sg.c1⟩ : BrR)]) from (hP.keep k5 (fun x hx => .inl (by rcases List.mem_cons.1 hx with e | e; simp [e]; simp [show x ∈ q from e])) (fun x hx => by
              simp only [List.mem_cons, List.not_mem_nil, or_false, List.mem_append, false_or] at hx;rcases hx with rfl | rfl | rfl | hx
              · exact .inl (by simp)
              · exact .inl (by simp)
              · rcases o2 with e | e
                · exact .inl (by simp [show sg.g ∈ q from e])
                · exact .inr e
              · exact .inl (by simp only [List.mem_cons, List.mem_append]; exact .inr (.inr (.inr hx))))).snoc (PathN.of_ownA p1 (fun x hx hm' => by
              have := p2 x hx;simp only [List.mem_cons, List.not_mem_nil, or_false, List.mem_append, false_or] at hm';rcases hm' with rfl | rfl | rfl | hm'
              · omega
              · omega
              · exact o3 hx
              · have := hO.bel.size; have := List.mem_range.1 hm'; omega)))
            (show (L ++ [(⟨⟨d, path⟩, sg.A1, sg.c1⟩ : BrR)]).map (·.b) = p.bts.take (k + 1) from by rw [List.take_succ_eq_append_getElem hlt, ← hx, List.map_append, hLb]; rfl))
          have HN := Lib.hid hN;clear hf hF hWW p1 p2 o1 o2 o3 hob5 k5 hO hP hLb hx hm e1 hN;simp only [List.filterMap, List.foldl, List.setIfInBounds_toArray, List.set_cons_succ, List.set_cons_zero];go_wp2_with fail
          go_roundg (gk - 1);case measure => omega
          case rel => exact ⟨k + 1, sg.A, sg.c, [sg.g], _, by omega, by go_num, HN.out.2.2, HN.out.2.1, HN.out.1⟩
        · obtain rfl : k = p.bts.length := by omega
          rw [List.take_length] at hLb;have hob4 := hO.heap 2 rfl;have hr4 := hO.heap 1 rfl;have q0 := (cOH hob4 0).trans rfl;have q1' := (cOH hob4 1).trans rfl;have q2' := (cOH hob4 2).trans rfl;have f0 := fOH hr4 0;have f1 := fOH hr4 1;have f2 := fOH hr4 2;have r0 := (cOH hr4 0).trans rfl;have r1 := (cOH hr4 1).trans rfl;have r2 := (cOH hr4 2).trans rfl;have zr4 := hL_ hr4;have H5 := Lib.hid (And.intro hO (And.intro hP (And.intro hLb hr4)));clear hO hP hLb hob4 hr4;go_wp2_with fail
          obtain ⟨hO, hP, hLb, hr4⟩ := H5.out;have ew := hS_ (hS_ (hS_ hr4 0 (.slice Ac1 p.chs.length cc1)) 1 (.slice A p.bts.length c)) 2 (.int .i64 p.tugs);have y0 := (cOH ew 0).trans rfl;have y1 := (cOH ew 1).trans rfl;have y2 := (cOH ew 2).trans rfl;have kr : Keep [rb] wr (((wr.setCell ⟨rb, 0, none⟩ (.slice Ac1 p.chs.length cc1)).setCell ⟨rb, 1, none⟩ (.slice A p.bts.length c)).setCell ⟨rb, 2, none⟩ (.int .i64 p.tugs)) := (((Keep.refl _ _).setCell (.inl (by simp)) _).setCell (.inl (by simp)) _).setCell (.inl (by simp)) _;have hset := hO.set 1 rfl kr ew;refine bodyPost_ret (v := .agg (prtV Ac1 cc1 A c p)) (by simp [results, Try.results34, go_sem, y0, y1, y2]) rfl ?_;exact ⟨Ac1, cc1, A, c, _, rfl, prtH_new (hset.owns 3 rfl) (hset.owns 4 rfl) hLb (hP.keep kr (fun x hx => .inl (by rw [List.mem_singleton.1 hx]; simp)) (fun x hx => .inl (by simp at hx; simp [hx]))) (fun x hx => hO.ge 3 rfl (x := x) hx) (fun x hx => hO.ge 4 rfl (x := x) hx), fun x hx => (mem_newQ.1 hx).1, hset.bel⟩
theorem infoRCal : (Try.prog.info? 173).map (fun i => (i.zero, i.size, i.bytes)) = some (some (.agg #[.int .i64 0, .int .i64 0, .bool false, .int .i64 0, .int .i64 0, .int .i64 0]), 6, 48) := by kernel_rfl
theorem infoRSwp : (Try.prog.info? 174).map (fun i => (i.zero, i.size, i.bytes)) = some (some (.agg #[.int .i64 0, .int .i64 0, .int .i64 0]), 3, 24) := by kernel_rfl
theorem planR_any (Al : Option Addr) (cl : Nat) (As : Option Addr) (cs : Nat) (l : Pln) (w : World) (hp : PlnB w.heap.size w Al cl As cs l) (hl : l.calls.length ≤ 1000) (hs : l.swps.length ≤ 1000) :
    Calls Try.prog 35 #[.agg (plnV Al cl As cs l)] w (NewPln w l) := by
  obtain ⟨i0, hi0, hz0, hz1, hz2⟩ := info_parts infoRCal;obtain ⟨i1, hi1, hy0, hy1, hy2⟩ := info_parts infoRSwp;obtain ⟨pb, hpb⟩ : ∃ b, b = w.heap.size := ⟨_, rfl⟩;obtain ⟨rb, hrb⟩ : ∃ b, b = w.heap.size + 1 := ⟨_, rfl⟩;obtain ⟨ob, hob⟩ : ∃ b, b = w.heap.size + 1 + 1 := ⟨_, rfl⟩;obtain ⟨W, hW⟩ : ∃ W, W = (((w.alloc (.cells (plnV Al cl As cs l) 31)).alloc (.cells #[.int .i64 0, .slice none 0 0, .slice none 0 0] 85)).alloc (.cells #[.int .i64 l.hours, .slice none 0 0, .slice none 0 0] 85)) := ⟨_, rfl⟩;have O0 : Own w.heap.size w [.blk pb (.cells (plnV Al cl As cs l) 31), .blk rb (.cells #[.int .i64 0, .slice none 0 0, .slice none 0 0] 85), .blk ob (.cells #[.int .i64 l.hours, .slice none 0 0, .slice none 0 0] 85),
      .own 173 6 none 0 0 [] [], .own 174 3 none 0 0 [] []] W := by
    have h := ((((Own.start w).alloc (.cells (plnV Al cl As cs l) 31)).alloc (.cells #[.int .i64 0, .slice none 0 0, .slice none 0 0] 85)).alloc (.cells #[.int .i64 l.hours, .slice none 0 0, .slice none 0 0] 85));have h2 := (h.new (i := .own 173 6 none 0 0 [] []) (Below.refl _ _) (OwnS.nil _ _ _) (by simp [It.fp])).new (i := .own 174 3 none 0 0 [] []) (Below.refl _ _) (OwnS.nil _ _ _) (by simp [It.fp]);rw [hW, hpb, hrb, hob];simpa using h2
  have HP := Lib.hid (And.intro hp O0);clear hp O0
  go_enter Try.func35, Try.ntmps35
  go_wp2_with fail
  rw [← hW, ← hob, ← hrb, ← hpb];clear hW hob hrb hpb
  go_loopg [14] (l.calls.length) (fun g i wr => ∃ (k : Nat) (A : Option Addr) (c : Nat) (q : List Nat), g + k = l.calls.length ∧ i = .int .i64 k ∧
    Own w.heap.size w [.blk pb (.cells (plnV Al cl As cs l) 31), .blk rb (.cells #[.int .i64 0, .slice none 0 0, .slice none 0 0] 85), .blk ob (.cells #[.int .i64 l.hours, .slice A k c, .slice none 0 0] 85),
      .own 173 6 A k c (cacs (l.calls.take k)) q, .own 174 3 none 0 0 [] []] wr)
  case atStart => exact ⟨0, none, 0, [], rfl, rfl, HP.out.2⟩
  case round =>
    obtain ⟨k, A, c, q, hk, rfl, hO⟩ := hrel;have o1 := (cOH (hO.heap 2 rfl) 1).trans rfl;have zo := hL_ (hO.heap 2 rfl);by_cases hlt : k < l.calls.length
    · obtain ⟨b, off, rfl, hb, hc⟩ := ((HP.out.1.calls).below hO.bel).2 (by omega);obtain ⟨s0, s1, s2, s3, s4, s5⟩ := cacs_get hlt;have c0 := hc _ _ s0;have c1 : wr.cell? ⟨b, off + k * 6 + 1, none⟩ = _ := hc _ _ s1;have c2 : wr.cell? ⟨b, off + k * 6 + 2, none⟩ = _ := hc _ _ s2;have c3 : wr.cell? ⟨b, off + k * 6 + 3, none⟩ = _ := hc _ _ s3;have c4 : wr.cell? ⟨b, off + k * 6 + 4, none⟩ = _ := hc _ _ s4;have c5 : wr.cell? ⟨b, off + k * 6 + 5, none⟩ = _ := hc _ _ s5;obtain ⟨x, hx⟩ : ∃ x, x = l.calls[k] := ⟨_, rfl⟩;rw [← hx] at c0 c1 c2 c3 c4 c5;have n2 : (k : Int) < (l.calls.length : Int) := by omega
      have HS := Lib.hid (And.intro hO hx);clear hc s0 s1 s2 s3 s4 s5 hO hx
      go_wp2_with (at_builtin
                   refine wpList_append_S (size := 6) rfl (.tmp 19) (.tmp 21) 82 rfl i0 _ 48 Try.underlying82 hi0 hz0 hz1 (by decide) hz2 rfl (A := A) (n := k) (c := c) (xs := cacs (l.calls.take k)) (fp := q) (by simp [Act.eval]) ⟨wr.heap.size + 1, 0, none⟩ (by simp [Act.eval]) (cac x) (((HS.out.1.owns 3 rfl).alloc _).alloc _) rfl ?_ (by simp [cac, Value.oneCell']) (by omega) (by omega) ?_
                   · intro j v hv;rw [show (⟨wr.heap.size + 1, 0, none⟩ : Addr).add j = ⟨wr.heap.size + 1, j, none⟩ from by simp [Addr.add]; omega];have := World.cell?_alloc_new (wr.alloc (.cells #[.int .i64 x.hour, .int .i64 x.berth, .bool x.out, .int .i64 x.draught, .int .i64 x.most, .int .i64 x.tugs] 55)) #[.int .i64 x.hour, .int .i64 x.berth, .bool x.out, .int .i64 x.draught, .int .i64 x.most, .int .i64 x.tugs] 173 j;rw [World.size_alloc] at this;rw [this];simpa [cac] using hv
                   intro g c' w5 h1 h2 h3 h4;rw [HS.out.2, cacs_snoc hlt] at h1;have hq := HS.out.1.app3 2 3 rfl rfl (by decide) (((Below.refl _ _).alloc (Nat.le_refl _) _).alloc (by simp) _) h1 h2 h4 1 (.slice (some ⟨g, 0, none⟩) (k + 1) c');have d0 : w5.cell? ⟨ob, 1, none⟩ = some (.slice A k c) := (cOH hq.1 1).trans rfl;have d1 := fOH hq.1 1;have HQ := Lib.hid hq.2;clear h1 h2 h3 h4 hq)
      go_roundg (gk - 1);case measure => omega
      case rel => exact ⟨k + 1, some ⟨g, 0, none⟩, c', [g], by omega, by go_num, HQ.out⟩
    · obtain rfl : k = l.calls.length := by omega
      rw [List.take_length] at hO;have HS := Lib.hid hO;have p2 := (cOH (hO.heap 0 rfl) 2).trans rfl;have zp := hL_ (hO.heap 0 rfl);clear hO o1 zo;obtain ⟨w1, hw1⟩ : ∃ w1, w1 = wr := ⟨_, rfl⟩;subst hw1;go_wp2_with fail
      go_loopg [28] (l.swps.length) (fun g i wr => ∃ (k : Nat) (B : Option Addr) (d : Nat) (q2 : List Nat), g + k = l.swps.length ∧ i = .int .i64 k ∧
        Own w.heap.size w [.blk pb (.cells (plnV Al cl As cs l) 31), .blk rb (.cells #[.int .i64 0, .slice none 0 0, .slice none 0 0] 85), .blk ob (.cells #[.int .i64 l.hours, .slice A l.calls.length c, .slice B k d] 85),
          .own 173 6 A l.calls.length c (cacs l.calls) q, .own 174 3 B k d (swcs (l.swps.take k)) q2] wr)
      case atStart => exact ⟨0, none, 0, [], rfl, rfl, HS.out⟩
      case round =>
        obtain ⟨k, B, d, q2, hk, rfl, hO⟩ := hrel;have o2 := (cOH (hO.heap 2 rfl) 2).trans rfl;have zo := hL_ (hO.heap 2 rfl);by_cases hlt : k < l.swps.length
        · obtain ⟨b, off, rfl, hb, hc⟩ := ((HP.out.1.swps).below hO.bel).2 (by omega);obtain ⟨s0, s1, s2⟩ := swcs_get hlt;have c0 := hc _ _ s0;have c1 : wr.cell? ⟨b, off + k * 3 + 1, none⟩ = _ := hc _ _ s1;have c2 : wr.cell? ⟨b, off + k * 3 + 2, none⟩ = _ := hc _ _ s2;obtain ⟨x, hx⟩ : ∃ x, x = l.swps[k] := ⟨_, rfl⟩;rw [← hx] at c0 c1 c2;have n2 : (k : Int) < (l.swps.length : Int) := by omega
          have HT := Lib.hid (And.intro hO hx);clear hc s0 s1 s2 hO hx
          go_wp2_with (at_builtin
                       refine wpList_append_S (size := 3) rfl (.tmp 33) (.tmp 35) 83 rfl i1 _ 24 Try.underlying83 hi1 hy0 hy1 (by decide) hy2 rfl (A := B) (n := k) (c := d) (xs := swcs (l.swps.take k)) (fp := q2) (by simp [Act.eval]) ⟨wr.heap.size + 1, 0, none⟩ (by simp [Act.eval]) (swc x) (((HT.out.1.owns 4 rfl).alloc _).alloc _) rfl ?_ (by simp [swc, Value.oneCell']) (by omega) (by omega) ?_
                       · intro j v hv;rw [show (⟨wr.heap.size + 1, 0, none⟩ : Addr).add j = ⟨wr.heap.size + 1, j, none⟩ from by simp [Addr.add]; omega];have := World.cell?_alloc_new (wr.alloc (.cells #[.int .i64 x.hour, .int .i64 x.channel, .int .i64 x.tugs] 126)) #[.int .i64 x.hour, .int .i64 x.channel, .int .i64 x.tugs] 174 j;rw [World.size_alloc] at this;rw [this];simpa [swc] using hv
                       intro g c' w5 h1 h2 h3 h4;rw [HT.out.2, swcs_snoc hlt] at h1;have hq := HT.out.1.app3 2 4 rfl rfl (by decide) (((Below.refl _ _).alloc (Nat.le_refl _) _).alloc (by simp) _) h1 h2 h4 2 (.slice (some ⟨g, 0, none⟩) (k + 1) c');have d0 : w5.cell? ⟨ob, 2, none⟩ = some (.slice B k d) := (cOH hq.1 2).trans rfl;have d1 := fOH hq.1 2;have HQ := Lib.hid hq.2;clear h1 h2 h3 h4 hq)
          go_roundg (gk - 1);case measure => omega
          case rel => exact ⟨k + 1, some ⟨g, 0, none⟩, c', [g], by omega, by go_num, HQ.out⟩
        · obtain rfl : k = l.swps.length := by omega
          rw [List.take_length] at hO;have HT := Lib.hid hO;have ho := hO.heap 2 rfl;have hr := hO.heap 1 rfl;have x0 := (cOH ho 0).trans rfl;have x1 := (cOH ho 1).trans rfl;have r0 := (cOH hr 0).trans rfl;have r1 := (cOH hr 1).trans rfl;have r2 := (cOH hr 2).trans rfl;have f0 := fOH hr 0;have f1 := fOH hr 1;have f2 := fOH hr 2;have zr := hL_ hr;clear hO ho hr;go_wp2_with fail
          have hO := HT.out;have ew := hS_ (hS_ (hS_ (HT.out.heap 1 rfl) 0 (.int .i64 l.hours)) 1 (.slice A l.calls.length c)) 2 (.slice B l.swps.length d);have y0 := (cOH ew 0).trans rfl;have y1 := (cOH ew 1).trans rfl;have y2 := (cOH ew 2).trans rfl;refine bodyPost_ret (v := .agg (plnV A c B d l)) (by simp [results, Try.results35, go_sem, y0, y1, y2]) rfl ?_;have hset := HT.out.set 1 rfl ((((Keep.refl _ _).setCell (.inl (by simp)) _).setCell (.inl (by simp)) _).setCell (.inl (by simp)) _) ew;exact ⟨A, c, B, d, _, rfl, plnH_new (hset.owns 3 rfl) (hset.owns 4 rfl) (fun x hx => hO.ge 3 rfl (x := x) hx) (fun x hx => hO.ge 4 rfl (x := x) hx), fun x hx => (mem_newQ.1 hx).1, hset.bel⟩
end Go.Proofs.Ythmldeningpjbaa
namespace Go.Proofs.Ythmldeningpjbaa.Pt
open Sp
def vstOk (v : Vst) : Bool := within v.arr 0 1000 && (within v.last v.arr 2000 && (within v.stay 1 100 && within v.dra 10 3000))
def askedE (p : Prt) (l : List Vst) : Int := if checkP p ≠ 0 then checkP p else if 5 < l.length then 2 else if l.all vstOk = false then 1 else 0
def cmp1 (a b : Plc) : Int := if a.berth ≠ b.berth then a.berth - b.berth else a.start - b.start
def cmpPl : List Plc → List Plc → Int
  | [], [] => 0
  | [], _ :: _ => -1
  | _ :: _, [] => 1
  | a :: l, b :: m => if cmp1 a b ≠ 0 then cmp1 a b else cmpPl l m
structure Bst where
  least : Int
  found : List Plc
  places : List Plc
deriving DecidableEq, Inhabited
def bestLeaf (waiting : Int) (s : Bst) : Bst := if s.least < 0 ∨ waiting < s.least ∨ cmpPl s.places s.found < 0 then ⟨waiting, s.places, s.places⟩ else s
def vs (l : List Vst) (i : Nat) : Vst := l.getD i default
def seekS (p : Prt) (l : List Vst) : Nat → Int → List Int → List Bool → Bst → Bst
  | 0, waiting, _, _, s => if 0 ≤ s.least ∧ s.least < waiting then s else bestLeaf waiting s
  | n + 1, waiting, free, done, s =>
    if 0 ≤ s.least ∧ s.least < waiting then s else
    (List.range l.length).foldl (fun s i =>
      if done.getD i false then s else
      (List.range p.bts.length).foldl (fun s b =>
        if (p.bts.getD b default).depth < (vs l i).dra ∨ (vs l i).last < max (vs l i).arr (free.getD b 0) then s
        else seekS p l n (waiting + max (vs l i).arr (free.getD b 0) - (vs l i).arr) (free.set b (max (vs l i).arr (free.getD b 0) + (vs l i).stay)) (done.set i true)
          ⟨s.least, s.found, s.places.set i ⟨b, max (vs l i).arr (free.getD b 0)⟩⟩) s) s
def bestS (p : Prt) (l : List Vst) : Bst := seekS p l l.length 0 (List.replicate p.bts.length 0) (List.replicate l.length false) ⟨-1, [], List.replicate l.length ⟨0, 0⟩⟩
def bestE (p : Prt) (l : List Vst) : Int := if askedE p l ≠ 0 then askedE p l else if (bestS p l).least < 0 then 4 else 0
def bestN (p : Prt) (l : List Vst) : Int := if bestE p l = 0 then (bestS p l).least else 0
def bestV (p : Prt) (l : List Vst) : List Plc := if bestE p l = 0 then (bestS p l).found else []
end Go.Proofs.Ythmldeningpjbaa.Pt
namespace Go.Proofs.Ythmldeningpjbaa
open Go Go.RowKit Sp Pt
abbrev plcV (x : Plc) : Value := .agg #[.int .i64 x.berth, .int .i64 x.start]
def plcOk (x : Plc) : Prop := 0 ≤ x.berth ∧ x.berth ≤ 1000000 ∧ 0 ≤ x.start ∧ x.start ≤ 1000000
theorem cmp1_any (x y : Plc) (w : World) (hx : plcOk x) (hy : plcOk y) :
    Calls Try.prog 131 #[plcV x, plcV y] w fun e w' => e = .returned (.int .i64 (cmp1 x y)) ∧ Below w.heap.size w w' := by
  obtain ⟨xb, xs⟩ := x;obtain ⟨yb, ys⟩ := y;obtain ⟨x1, x2, x3, x4⟩ := hx;obtain ⟨y1, y2, y3, y4⟩ := hy;simp only [plcV] at *;obtain ⟨W, hW⟩ : ∃ W, W = (w.alloc (.cells #[.int .i64 xb, .int .i64 xs] 109)).alloc (.cells #[.int .i64 yb, .int .i64 ys] 109) := ⟨_, rfl⟩;obtain ⟨b1, h1⟩ : ∃ b, b = w.heap.size := ⟨_, rfl⟩;obtain ⟨b2, h2⟩ : ∃ b, b = w.heap.size + 1 := ⟨_, rfl⟩;have g1 : W.heap[b1]? = some (.cells #[.int .i64 xb, .int .i64 xs] 109 (0, 0)) := by rw [hW, h1]; exact hA_ (heap_alloc_new _ _) _
  have g2 : W.heap[b2]? = some (.cells #[.int .i64 yb, .int .i64 ys] 109 (0, 0)) := by
    rw [hW, h2];have := heap_alloc_new (w.alloc (.cells #[.int .i64 xb, .int .i64 xs] 109)) (.cells #[.int .i64 yb, .int .i64 ys] 109)
    rwa [World.size_alloc] at this
  have b0 : Below w.heap.size w W := by rw [hW]; exact ((Below.refl _ _).alloc (Nat.le_refl _) _).alloc (by simp) _
  have c0 : W.cell? ⟨b1, 0, none⟩ = some (.int .i64 xb) := (cOH g1 0).trans rfl;have c1 : W.cell? ⟨b1, 1, none⟩ = some (.int .i64 xs) := (cOH g1 1).trans rfl;have c2 : W.cell? ⟨b2, 0, none⟩ = some (.int .i64 yb) := (cOH g2 0).trans rfl;have c3 : W.cell? ⟨b2, 1, none⟩ = some (.int .i64 ys) := (cOH g2 1).trans rfl;have z1 := hL_ g1;have z2 := hL_ g2;have H := Lib.hid b0;clear g1 g2 b0
  go_enter Try.func131, Try.ntmps131
  go_upto_region 1 with fail
  rw [← hW, ← h2, ← h1];clear hW h1 h2;by_cases e : xb = yb
  · have eb : (xb != yb) = false := by simp [e]
    have HE := Lib.hid e;clear e;go_wp2_with fail
    go_ret;exact ⟨by rw [show cmp1 ⟨xb, xs⟩ ⟨yb, ys⟩ = xs - ys from if_neg (by simpa using HE.out)]; rfl, H.out⟩
  · have eb : (xb != yb) = true := by simp [e]
    have HE := Lib.hid e;clear e;go_wp2_with fail
    go_ret;exact ⟨by rw [show cmp1 ⟨xb, xs⟩ ⟨yb, ys⟩ = xb - yb from if_pos (by simpa using HE.out)]; rfl, H.out⟩
theorem cmpPl_any (A : Option Addr) (ca : Nat) (L : List Plc) (B : Option Addr) (cb : Nat) (M : List Plc) (w : World) (hL : Rd w 2 A L.length (plcs L)) (hM : Rd w 2 B M.length (plcs M)) (oL : ∀ x ∈ L, plcOk x) (oM : ∀ x ∈ M, plcOk x)
    (hl : L.length ≤ 1000) (hm : M.length ≤ 1000) :
    Calls Try.prog 130 #[.slice A L.length ca, .slice B M.length cb, .func (.func 131) #[] #[]] w fun e w' => e = .returned (.int .i64 (cmpPl L M)) ∧ Below w.heap.size w w' := by
  have H := Lib.hid (And.intro hL (And.intro hM (And.intro oL oM)));clear hL hM oL oM;obtain ⟨n, hn⟩ : ∃ n, n = L.length := ⟨_, rfl⟩;obtain ⟨m, hme⟩ : ∃ m, m = M.length := ⟨_, rfl⟩;rw [← hn, ← hme];rw [← hn] at hl;rw [← hme] at hm;have HN := Lib.hid (And.intro hn hme);clear hn hme
  go_enter Try.func130, Try.ntmps130
  go_wp2_with fail
  go_loopg [13] (n) (fun g i wr => ∃ k : Nat, g + k = n ∧ i = .int .i64 k ∧ k ≤ m ∧ cmpPl L M = cmpPl (L.drop k) (M.drop k) ∧ Keep [] w wr)
  case atStart => exact ⟨0, rfl, rfl, Nat.zero_le _, rfl, Keep.refl _ _⟩
  case round =>
    obtain ⟨k, hk, rfl, hkm, hc, hK⟩ := hrel;by_cases hlt : k < n
    · have hkL : k < L.length := by rw [← HN.out.1]; exact hlt
      have hdL : L.drop k = L[k] :: L.drop (k + 1) := List.drop_eq_getElem_cons hkL;obtain ⟨b, off, rfl, hb, hcl⟩ := (hK.rd H.out.1 (by simp)).2 (by omega);obtain ⟨p0, p1⟩ := plcs_get hkL;obtain ⟨x, hx⟩ : ∃ x, x = L[k] := ⟨_, rfl⟩;have ox : plcOk x := H.out.2.2.1 x (by rw [hx]; exact List.getElem_mem _);rw [← hx] at p0 p1 hdL;have d0 := hcl _ _ p0;have d1 : wr.cell? ⟨b, off + k * 2 + 1, none⟩ = _ := hcl _ _ p1;by_cases hltm : k < m
      · have hkM : k < M.length := by rw [← HN.out.2]; exact hltm
        have hdM : M.drop k = M[k] :: M.drop (k + 1) := List.drop_eq_getElem_cons hkM;obtain ⟨b', off', rfl, hb', hcm⟩ := (hK.rd H.out.2.1 (by simp)).2 (by omega);obtain ⟨q0, q1⟩ := plcs_get hkM;obtain ⟨y, hy⟩ : ∃ y, y = M[k] := ⟨_, rfl⟩;have oy : plcOk y := H.out.2.2.2 y (by rw [hy]; exact List.getElem_mem _);rw [← hy] at q0 q1 hdM;have e0 := hcm _ _ q0;have e1 : wr.cell? ⟨b', off' + k * 2 + 1, none⟩ = _ := hcm _ _ q1;have kc := fun wx => cmp1_any x y wx ox oy;have hS : cmpPl L M = if cmp1 x y ≠ 0 then cmp1 x y else cmpPl (L.drop (k + 1)) (M.drop (k + 1)) := by rw [hc, hdL, hdM]; rfl
        obtain ⟨r, hr⟩ : ∃ r, r = cmp1 x y := ⟨_, rfl⟩;simp only [← hr] at kc hS;obtain ⟨xb, xs⟩ := x;obtain ⟨yb, ys⟩ := y;simp only at d0 d1 e0 e1;have HI := Lib.hid (And.intro hS (And.intro hK kc));clear hS hK kc hc hcl hcm p0 p1 q0 q1 ox oy hdL hdM hx hy hr;by_cases hr0 : r = 0
        · subst hr0;go_wp2_with (go_at_call 131; refine (HI.out.2.2 _).mono ?_; rintro e w2 ⟨rfl, b2⟩; have B2 := Lib.hid b2; clear b2)
          go_roundg (gk - 1);case measure => omega
          case rel => exact ⟨k + 1, by omega, by go_num, by omega, by rw [HI.out.1]; rfl, ((HI.out.2.1.alloc _).alloc _).trans (Keep.of_below (S := []) B2.out) (by simp)⟩
        · have hrb : (r != 0) = true := by simp [hr0]
          go_wp2_with (go_at_call 131; refine (HI.out.2.2 _).mono ?_; rintro e w2 ⟨rfl, b2⟩; have B2 := Lib.hid b2; clear b2)
          go_ret;exact ⟨by rw [HI.out.1, if_pos (by assumption)]; rfl, (((HI.out.2.1.alloc _).alloc _).trans (Keep.of_below (S := []) B2.out) (by simp)).below (Nat.le_refl _) (by simp)⟩
      · obtain rfl : k = m := by omega
        have hdM : M.drop k = [] := List.drop_eq_nil_of_le (by rw [← HN.out.2]; omega);have hS : cmpPl L M = 1 := by rw [hc, hdL, hdM]; rfl
        obtain ⟨xb, xs⟩ := x;simp only at d0 d1;have HI := Lib.hid (And.intro hS hK);clear hS hK hc hcl p0 p1 ox hdL hdM hx;go_wp2_with fail
        go_ret;exact ⟨by rw [HI.out.1]; rfl, (HI.out.2.alloc _).below (Nat.le_refl _) (by simp)⟩
    · obtain rfl : k = n := by omega
      have hdL : L.drop k = [] := List.drop_eq_nil_of_le (by rw [← HN.out.1]; omega);by_cases hltm : k < m
      · have hkM : k < M.length := by rw [← HN.out.2]; exact hltm
        have hdM : M.drop k = M[k] :: M.drop (k + 1) := List.drop_eq_getElem_cons hkM;have hS : cmpPl L M = -1 := by rw [hc, hdL, hdM]; rfl
        have HI := Lib.hid (And.intro hS hK);clear hS hK hc hdL hdM;go_wp2_with fail
        go_ret;exact ⟨by rw [HI.out.1]; rfl, HI.out.2.below (Nat.le_refl _) (by simp)⟩
      · have hdM : M.drop k = [] := List.drop_eq_nil_of_le (by rw [← HN.out.2]; omega);have hS : cmpPl L M = 0 := by rw [hc, hdL, hdM]; rfl
        have HI := Lib.hid (And.intro hS hK);clear hS hK hc hdL hdM;go_wp2_with fail
        go_ret;exact ⟨by rw [HI.out.1]; rfl, HI.out.2.below (Nat.le_refl _) (by simp)⟩
theorem asked_bad {p : Prt} {l : List Vst} (hc : checkP p = 0) (hl : l.length ≤ 5) {k : Nat} (hk : k < l.length) (h : vstOk l[k] = false) : askedE p l = 1 := by
  have : l.all vstOk = false := by
    cases q : l.all vstOk with
    | false => rfl
    | true => rw [List.all_eq_true.1 q _ (List.getElem_mem hk)] at h; cases h
  unfold askedE;rw [if_neg (by rw [hc]; decide), if_neg (by omega), if_pos this]
theorem asked_any (D : Nat) (Ac : Option Addr) (cc : Nat) (Ab : Option Addr) (cb : Nat) (p : Prt) (A : Option Addr) (c : Nat) (l : List Vst) (w : World) (PB : PrtB D w Ac cc Ab cb p) (hr : Rd w 4 A l.length (vscs l)) (hD : D ≤ w.heap.size) :
    Calls Try.prog 104 #[.agg (prtV Ac cc Ab cb p), .slice A l.length c] w fun e w' => e = .returned (.int .i64 (askedE p l)) ∧ Below w.heap.size w w' := by
  obtain ⟨W, hW⟩ : ∃ W, W = w.alloc (.cells (prtV Ac cc Ab cb p) 26) := ⟨_, rfl⟩;obtain ⟨pb, hpb⟩ : ∃ b, b = w.heap.size := ⟨_, rfl⟩;have hh : W.heap[pb]? = some (.cells (prtV Ac cc Ab cb p) 26 (0, 0)) := by rw [hW, hpb]; exact heap_alloc_new _ _
  have b0 : Below w.heap.size w W := by rw [hW]; exact (Below.refl _ _).alloc (Nat.le_refl _) _
  have c0 : W.cell? ⟨pb, 0, none⟩ = some (.slice Ac p.chs.length cc) := (cOH hh 0).trans rfl;have c1 : W.cell? ⟨pb, 1, none⟩ = some (.slice Ab p.bts.length cb) := (cOH hh 1).trans rfl;have c2 : W.cell? ⟨pb, 2, none⟩ = some (.int .i64 p.tugs) := (cOH hh 2).trans rfl;have zp := hL_ hh;obtain ⟨er, her⟩ : ∃ er, er = checkP p := ⟨_, rfl⟩;have kc := ptCheck_any D Ac cc Ab cb p W (PB.below (b0.mono hD)) (by have := b0.size; omega);rw [← her] at kc;have H := Lib.hid (And.intro b0 (And.intro her (And.intro kc hr)));clear hh b0 kc her hr PB
  go_enter Try.func104, Try.ntmps104
  go_upto_region 1 with fail
  rw [← hW, ← hpb];clear hW hpb;by_cases h0 : er = 0
  · subst h0;by_cases hl : l.length ≤ 5
    · go_upto_region 4 with (go_at_call 50; refine H.out.2.2.1.mono ?_; rintro e w1 ⟨rfl, b1⟩; have B1 := Lib.hid (And.intro (H.out.1.trans (b1.mono H.out.1.size)) (H.out.2.2.2.below (H.out.1.trans (b1.mono H.out.1.size)))); clear b1)
      clear c0 c1 c2 zp;go_wp2_with fail
      go_loopg [18] (l.length) (fun g i wr => ∃ k : Nat, g + k = l.length ∧ i = .int .i64 k ∧ (l.take k).all vstOk = true ∧ Keep [] w1 wr)
      case atStart => exact ⟨0, rfl, rfl, by simp, Keep.refl _ _⟩
      case round =>
        obtain ⟨k, hk, rfl, hok, hK⟩ := hrel;by_cases hlt : k < l.length
        · obtain ⟨b, off, rfl, hb, hcl⟩ := (hK.rd B1.out.2 (by simp)).2 (by omega);obtain ⟨p0, p1, p2, p3⟩ := vscs_get hlt;obtain ⟨x, hx⟩ : ∃ x, x = l[k] := ⟨_, rfl⟩;rw [← hx] at p0 p1 p2 p3;have d0 := hcl _ _ p0;have d1 : wr.cell? ⟨b, off + k * 4 + 1, none⟩ = _ := hcl _ _ p1;have d2 : wr.cell? ⟨b, off + k * 4 + 2, none⟩ = _ := hcl _ _ p2;have d3 : wr.cell? ⟨b, off + k * 4 + 3, none⟩ = _ := hcl _ _ p3;obtain ⟨ar, la, st, dr⟩ := x;simp only at d0 d1 d2 d3;have hvk : vstOk l[k] = (within ar 0 1000 && (within la ar 2000 && (within st 1 100 && within dr 10 3000))) := by rw [← hx]; rfl
          have hbad := fun h => asked_bad (p := p) H.out.2.1.symm hl hlt h;have HI := Lib.hid (And.intro hvk (And.intro hok (And.intro hK hbad)));clear hvk hok hK hcl p0 p1 p2 p3 hx hbad;cases w1' : within ar 0 1000
          · go_wp2_with (go_at_call 80; refine (pWa _ _ _ _).mono ?_; rintro e w' ⟨rfl, rfl⟩)
            go_ret;exact ⟨by rw [HI.out.2.2.2 (by rw [HI.out.1]; simp_all)]; rfl, B1.out.1.trans ((HI.out.2.2.1.alloc _).below B1.out.1.size (by simp))⟩
          · cases w2' : within la ar 2000
            · go_wp2_with (go_at_call 80; refine (pWa _ _ _ _).mono ?_; rintro e w' ⟨rfl, rfl⟩)
              go_ret;exact ⟨by rw [HI.out.2.2.2 (by rw [HI.out.1]; simp_all)]; rfl, B1.out.1.trans ((HI.out.2.2.1.alloc _).below B1.out.1.size (by simp))⟩
            · cases w3' : within st 1 100
              · go_wp2_with (go_at_call 80; refine (pWa _ _ _ _).mono ?_; rintro e w' ⟨rfl, rfl⟩)
                go_ret;exact ⟨by rw [HI.out.2.2.2 (by rw [HI.out.1]; simp_all)]; rfl, B1.out.1.trans ((HI.out.2.2.1.alloc _).below B1.out.1.size (by simp))⟩
              · cases w4' : within dr 10 3000
                · go_wp2_with (go_at_call 80; refine (pWa _ _ _ _).mono ?_; rintro e w' ⟨rfl, rfl⟩)
                  go_ret;exact ⟨by rw [HI.out.2.2.2 (by rw [HI.out.1]; simp_all)]; rfl, B1.out.1.trans ((HI.out.2.2.1.alloc _).below B1.out.1.size (by simp))⟩
                · go_wp2_with (go_at_call 80; refine (pWa _ _ _ _).mono ?_; rintro e w' ⟨rfl, rfl⟩)
                  go_roundg (gk - 1);case measure => omega
                  case rel => exact ⟨k + 1, by omega, by go_num, all_take_succ hlt HI.out.2.1 (by rw [HI.out.1]; simp_all), HI.out.2.2.1.alloc _⟩
        · obtain rfl : k = l.length := by omega
          rw [List.take_length] at hok;have HL := Lib.hid (And.intro hok hK);clear hok hK;go_wp2_with fail
          go_ret;exact ⟨by rw [show askedE p l = 0 by unfold askedE; rw [if_neg (by rw [← H.out.2.1]; decide), if_neg (by omega), if_neg (by rw [HL.out.1]; decide)]]; rfl, B1.out.1.trans (HL.out.2.below B1.out.1.size (by simp))⟩
    · have hlb : (5 : Int) < (l.length : Int) := by omega
      go_wp2_with (go_at_call 50; refine H.out.2.2.1.mono ?_; rintro e w1 ⟨rfl, b1⟩; have B1 := Lib.hid (H.out.1.trans (b1.mono H.out.1.size)); clear b1)
      go_ret;exact ⟨by rw [show askedE p l = 2 by unfold askedE; rw [if_neg (by rw [← H.out.2.1]; decide), if_pos (by omega)]]; rfl, B1.out⟩
  · have hrb : (er != 0) = true := by simp [h0]
    have HC := Lib.hid h0;clear h0;go_wp2_with (go_at_call 50; refine H.out.2.2.1.mono ?_; rintro e w1 ⟨rfl, b1⟩; have B1 := Lib.hid (H.out.1.trans (b1.mono H.out.1.size)); clear b1)
    go_ret;exact ⟨by rw [show askedE p l = er by unfold askedE; rw [← H.out.2.1, if_pos HC.out]]; rfl, B1.out⟩
end Go.Proofs.Ythmldeningpjbaa
namespace Go.Proofs.Ythmldeningpjbaa.Pt
open Sp
def seekB (p : Prt) (l : List Vst) (n : Nat) (waiting : Int) (free : List Int) (done : List Bool) (i : Nat) (s : Bst) (b : Nat) : Bst :=
  if (p.bts.getD b default).depth < (vs l i).dra ∨ (vs l i).last < max (vs l i).arr (free.getD b 0) then s
  else seekS p l n (waiting + max (vs l i).arr (free.getD b 0) - (vs l i).arr) (free.set b (max (vs l i).arr (free.getD b 0) + (vs l i).stay)) (done.set i true)
    ⟨s.least, s.found, s.places.set i ⟨b, max (vs l i).arr (free.getD b 0)⟩⟩
def seekI (p : Prt) (l : List Vst) (n : Nat) (waiting : Int) (free : List Int) (done : List Bool) (s : Bst) (i : Nat) : Bst :=
  if done.getD i false then s else (List.range p.bts.length).foldl (seekB p l n waiting free done i) s
theorem seekS_succ (p : Prt) (l : List Vst) (n : Nat) (waiting : Int) (free : List Int) (done : List Bool) (s : Bst) :
    seekS p l (n + 1) waiting free done s = if 0 ≤ s.least ∧ s.least < waiting then s else (List.range l.length).foldl (seekI p l n waiting free done) s := rfl
theorem range_foldl_succ {T : Type} (f : T → Nat → T) (s : T) (k : Nat) : (List.range (k + 1)).foldl f s = f ((List.range k).foldl f s) k := by
  rw [List.range_succ, List.foldl_append]; rfl
end Go.Proofs.Ythmldeningpjbaa.Pt
namespace Go.Proofs.Ythmldeningpjbaa
open Go Go.RowKit Sp Pt
structure BC where
  bl : Nat
  bv : Nat
  bp : Nat
  bf : Nat
  bd : Nat
  bq : Nat
  br : Nat
  bs : Nat
  gp : Nat
  gd : Nat
  gf : Nat
  D : Nat
  Ac : Option Addr
  Ab : Option Addr
  Av : Option Addr
  cc : Nat
  cb : Nat
  cv : Nat
  p : Prt
  l : List Vst
abbrev bestCaps (c : BC) : Array Value := #[.pointer (some ⟨c.bl, 0, none⟩), .pointer (some ⟨c.bv, 0, none⟩), .pointer (some ⟨c.bp, 0, none⟩), .pointer (some ⟨c.bf, 0, none⟩), .pointer (some ⟨c.bd, 0, none⟩), .pointer (some ⟨c.bq, 0, none⟩), .pointer (some ⟨c.br, 0, none⟩), .pointer (some ⟨c.bs, 0, none⟩)]
abbrev bset (c : BC) : List Nat := [c.bl, c.bf, c.gp, c.gd, c.gf]
structure BE (c : BC) (W : World) : Prop where
  hv : W.heap[c.bv]? = some (.cells #[.slice c.Av c.l.length c.cv] 100 (0, 0))
  hp : W.heap[c.bp]? = some (.cells #[.slice (some ⟨c.gp, 0, none⟩) c.l.length c.l.length] 103 (0, 0))
  hd : W.heap[c.bd]? = some (.cells #[.slice (some ⟨c.gd, 0, none⟩) c.l.length c.l.length] 40 (0, 0))
  hq : W.heap[c.bq]? = some (.cells (prtV c.Ac c.cc c.Ab c.cb c.p) 26 (0, 0))
  hr : W.heap[c.br]? = some (.cells #[.slice (some ⟨c.gf, 0, none⟩) c.p.bts.length c.p.bts.length] 33 (0, 0))
  hs : W.heap[c.bs]? = some (.cells #[.func (.func 129) #[] (bestCaps c)] 211 (0, 0))
  PB : PrtB c.D W c.Ac c.cc c.Ab c.cb c.p
  VB : RdB c.D W 4 c.Av c.l.length (vscs c.l)
  hD : c.D ≤ W.heap.size
structure BN (c : BC) : Prop where
  nd : c.bl ≠ c.bf ∧ c.bl ≠ c.gp ∧ c.bl ≠ c.gd ∧ c.bl ≠ c.gf ∧ c.bf ≠ c.gp ∧ c.bf ≠ c.gd ∧ c.bf ≠ c.gf ∧ c.gp ≠ c.gd ∧ c.gp ≠ c.gf ∧ c.gd ≠ c.gf
  nv : c.bv ∉ bset c
  np : c.bp ∉ bset c
  nd' : c.bd ∉ bset c
  nq : c.bq ∉ bset c
  nr : c.br ∉ bset c
  ns : c.bs ∉ bset c
  hD : ∀ x ∈ bset c, c.D ≤ x
  len : c.l.length ≤ 5
  vok : ∀ v ∈ c.l, 0 ≤ v.arr ∧ v.arr ≤ 1000 ∧ v.arr ≤ v.last ∧ v.last ≤ 2000 ∧ 1 ≤ v.stay ∧ v.stay ≤ 100 ∧ 10 ≤ v.dra ∧ v.dra ≤ 3000
  pv : PVal c.p
def RdN (S : List Nat) (w : World) (size : Nat) (A : Option Addr) (n cf : Nat) (xs : List Value) : Prop :=
  xs.length = n * size ∧ (0 < n → ∃ b off, A = some ⟨b, off, none⟩ ∧ b < w.heap.size ∧ b ∉ S ∧ ∀ j u, xs[j]? = some u → w.cell? ⟨b, off + j, none⟩ = some u) ∧ n ≤ cf ∧ cf ≤ 9223372036854775807
theorem RdN.rd {S : List Nat} {w : World} {size : Nat} {A : Option Addr} {n cf : Nat} {xs : List Value} (h : RdN S w size A n cf xs) : Rd w size A n xs :=
  ⟨h.1, fun h0 => by obtain ⟨b, off, e, hb, _, hc⟩ := h.2.1 h0; exact ⟨b, off, e, hb, hc⟩⟩
theorem RdN.keep {S : List Nat} {w w' : World} {size : Nat} {A : Option Addr} {n cf : Nat} {xs : List Value} (h : RdN S w size A n cf xs) (hk : Keep S w w') : RdN S w' size A n cf xs :=
  ⟨h.1, fun h0 => by obtain ⟨b, off, e, hb, hn, hc⟩ := h.2.1 h0; exact ⟨b, off, e, Nat.lt_of_lt_of_le hb hk.size, hn, fun j u hu => hk.cell (hc j u hu) hn⟩, h.2.2⟩
structure BS (c : BC) (W w : World) (free : List Int) (done : List Bool) (s : Bst) : Prop where
  kp : Keep (bset c) W w
  le : w.heap[c.bl]? = some (.cells #[.int .i64 s.least] 3 (0, 0))
  pl : w.heap[c.gp]? = some (.cells (plcs s.places).toArray 109 (0, 0))
  dn : w.heap[c.gd]? = some (.cells (bools done).toArray 4 (0, 0))
  fr : w.heap[c.gf]? = some (.cells (ints free).toArray 3 (0, 0))
  fo : ∃ A cf, w.heap[c.bf]? = some (.cells #[.slice A s.found.length cf] 103 (0, 0)) ∧ RdN (bset c) w 2 A s.found.length cf (plcs s.found)
  lp : s.places.length = c.l.length
  ld : done.length = c.l.length
  lf : free.length = c.p.bts.length
  lo : s.found.length ≤ 5
  fb : ∀ x ∈ free, 0 ≤ x ∧ x ≤ 2100
  pb : ∀ x ∈ s.places, plcOk x
  ob : ∀ x ∈ s.found, plcOk x
  leb : -1 ≤ s.least ∧ s.least ≤ 1000000
section
variable {c : BC} {W w w' : World} {free : List Int} {done : List Bool} {s : Bst}
theorem BE.keep (h : BE c W) (n : BN c) (hk : Keep (bset c) W w) : BE c w := by
  have hd : Below c.D W w := hk.below h.hD n.hD;exact ⟨(hk.block _ (hL_ h.hv) n.nv).trans h.hv, (hk.block _ (hL_ h.hp) n.np).trans h.hp, (hk.block _ (hL_ h.hd) n.nd').trans h.hd, (hk.block _ (hL_ h.hq) n.nq).trans h.hq, (hk.block _ (hL_ h.hr) n.nr).trans h.hr, (hk.block _ (hL_ h.hs) n.ns).trans h.hs, h.PB.below hd, h.VB.below hd, Nat.le_trans h.hD hk.size⟩
theorem BE.cells (h : BE c W) : W.cell? ⟨c.bv, 0, none⟩ = some (.slice c.Av c.l.length c.cv) ∧ W.cell? ⟨c.bp, 0, none⟩ = some (.slice (some ⟨c.gp, 0, none⟩) c.l.length c.l.length) ∧ W.cell? ⟨c.bd, 0, none⟩ = some (.slice (some ⟨c.gd, 0, none⟩) c.l.length c.l.length) ∧
    W.cell? ⟨c.bq, 0, none⟩ = some (.slice c.Ac c.p.chs.length c.cc) ∧ W.cell? ⟨c.bq, 1, none⟩ = some (.slice c.Ab c.p.bts.length c.cb) ∧ W.cell? ⟨c.br, 0, none⟩ = some (.slice (some ⟨c.gf, 0, none⟩) c.p.bts.length c.p.bts.length) ∧ W.cell? ⟨c.bs, 0, none⟩ = some (.func (.func 129) #[] (bestCaps c)) :=
  ⟨(cOH h.hv 0).trans rfl, (cOH h.hp 0).trans rfl, (cOH h.hd 0).trans rfl, (cOH h.hq 0).trans rfl, (cOH h.hq 1).trans rfl, (cOH h.hr 0).trans rfl, (cOH h.hs 0).trans rfl⟩
theorem BE.lts (h : BE c W) : c.bv < W.heap.size ∧ c.bp < W.heap.size ∧ c.bd < W.heap.size ∧ c.bq < W.heap.size ∧ c.br < W.heap.size ∧ c.bs < W.heap.size :=
  ⟨hL_ h.hv, hL_ h.hp, hL_ h.hd, hL_ h.hq, hL_ h.hr, hL_ h.hs⟩
theorem BS.lts (h : BS c W w free done s) : c.bl < w.heap.size ∧ c.bf < w.heap.size ∧ c.gp < w.heap.size ∧ c.gd < w.heap.size ∧ c.gf < w.heap.size := by
  obtain ⟨A, cf, h1, _⟩ := h.fo;exact ⟨hL_ h.le, hL_ h1, hL_ h.pl, hL_ h.dn, hL_ h.fr⟩
theorem BS.notin (h : BS c W w free done s) {x : Nat} (hx : w.heap.size ≤ x) : x ∉ bset c := by
  obtain ⟨a, b, d, e, f⟩ := h.lts;simp;omega
theorem BS.start (h : BS c W w free done s) : BS c w w free done s := ⟨Keep.refl _ _, h.le, h.pl, h.dn, h.fr, h.fo, h.lp, h.ld, h.lf, h.lo, h.fb, h.pb, h.ob, h.leb⟩
theorem BS.after {free' : List Int} {done' : List Bool} {s' : Bst} (h : BS c W w free done s) (h' : BS c w w' free' done' s') : BS c W w' free' done' s' :=
  ⟨h.kp.trans h'.kp (fun x hx => .inl hx), h'.le, h'.pl, h'.dn, h'.fr, h'.fo, h'.lp, h'.ld, h'.lf, h'.lo, h'.fb, h'.pb, h'.ob, h'.leb⟩
theorem BS.keep0 (h : BS c W w free done s) (hk : Keep [] w w') : BS c W w' free done s := by
  obtain ⟨A, cf, h1, h2⟩ := h.fo;have B : ∀ {x : Nat} {o : Obj}, w.heap[x]? = some o → w'.heap[x]? = some o := fun hx => (hk.block _ (hL_ hx) (by simp)).trans hx;exact ⟨h.kp.trans hk (by simp), B h.le, B h.pl, B h.dn, B h.fr, ⟨A, cf, B h1, h2.keep (hk.mono (by simp))⟩, h.lp, h.ld, h.lf, h.lo, h.fb, h.pb, h.ob, h.leb⟩
theorem BS.alloc (h : BS c W w free done s) (o : Obj) : BS c W (w.alloc o) free done s := h.keep0 ((Keep.refl _ _).alloc o)
end
theorem plcs_set (x : Plc) : ∀ (P : List Plc) (i : Nat), i < P.length → ((plcs P).set (i * 2) (.int .i64 x.berth)).set (i * 2 + 1) (.int .i64 x.start) = plcs (P.set i x)
  | [], i, h => absurd h (by simp)
  | y :: P, 0, _ => by simp [plcs, plc]
  | y :: P, i + 1, h => by
    have := plcs_set x P i (by simpa using h);have e : (i + 1) * 2 = i * 2 + 1 + 1 := by omega
    simp only [plcs, List.flatMap_cons, plc, List.cons_append, List.nil_append, List.set_cons_succ, e] at this ⊢;rw [this]
theorem bools_setA (d : List Bool) (i : Nat) (x : Bool) : (bools d).toArray.setIfInBounds i (.bool x) = (bools (d.set i x)).toArray := by simp [bools, List.map_set]
theorem ints_setA (d : List Int) (i : Nat) (x : Int) : (ints d).toArray.setIfInBounds i (.int .i64 x) = (ints (d.set i x)).toArray := by simp [ints, List.map_set]
theorem plcs_setA (P : List Plc) (i : Nat) (x : Plc) (h : i < P.length) : ((plcs P).toArray.setIfInBounds (i * 2) (.int .i64 x.berth)).setIfInBounds (i * 2 + 1) (.int .i64 x.start) = (plcs (P.set i x)).toArray := by
  rw [List.setIfInBounds_toArray, List.setIfInBounds_toArray, plcs_set x P i h]
end Go.Proofs.Ythmldeningpjbaa
