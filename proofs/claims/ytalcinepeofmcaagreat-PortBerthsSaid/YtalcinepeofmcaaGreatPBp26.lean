import Derived.Test.YtalcinepeofmcaaGreatPBp2
import Derived.Test.YtalcinepeofmcaaGreatPBp25
import Derived.Test.YtalcinepeofmcaaGreatPBp12
import Derived.Deep.DeepCutAuto
import Derived.Test.YtalcinepeofmcaaGreatPBp0
import Derived.Test.YtalcinepeofmcaaGreatPBp19
import Derived.Test.YtalcinepeofmcaaGreatPBp9
set_option linter.unusedVariables false
set_option linter.unusedSimpArgs false
set_option maxRecDepth 100000
set_option maxHeartbeats 40000000
namespace Go.Proofs.YtalcinepeofmcaaGreat
open Go Go.RowKit Sp Pt
structure ApcC where
  ob : Nat
  e : TypeId
  sz : Nat
  k : Nat
  A : Option Addr
  c : Nat
  xs : List Value
  q : List Nat
  path : List Int
  ti : TypeId
  ys : Option Addr → Nat → List Value
  old : Array Value
  new : Option Addr → Nat → Array Value
  t : TypeId
structure ApcS where
  A1 : Option Addr
  c1 : Nat
  q1 : List Nat
  bs : Nat
  A : Option Addr
  c : Nat
  g : Nat
structure ApcOk (C : ApcC) (W0 : World) : Prop where
  own : OwnS W0 C.e C.sz C.A C.k C.c C.xs C.q
  hob : W0.heap[C.ob]? = some (.cells C.old C.t (0, 0))
  obq : C.ob ∉ C.q
structure ApcW (C : ApcC) (oC oB oA oS : Nat) (W0 : World) (s : ApcS) (l : Nat → Bool) (w : World) : Prop where
  kp : Keep (C.ob :: C.q) W0 w
  pth : l oC = true → OwnA w C.ti s.A1 C.path.length s.c1 (ints C.path) s.q1 ∧ ∀ x ∈ s.q1, W0.heap.size ≤ x
  own0 : l oA = false → OwnS w C.e C.sz C.A C.k C.c C.xs C.q
  own1 : l oA = true → OwnS w C.e C.sz s.A (C.k + 1) s.c (C.xs ++ C.ys s.A1 s.c1) [s.g] ∧ (s.g ∈ C.q ∨ W0.heap.size ≤ s.g) ∧ (l oC = true → s.g ∉ s.q1)
  hob : w.heap[C.ob]? = some (.cells (if l oS then C.new s.A s.c else C.old) C.t (0, 0))
  hbs : l oB = true → W0.heap.size ≤ s.bs ∧ w.heap[s.bs]? = some (.cells (C.ys s.A1 s.c1).toArray C.e (0, 0))
section
variable {C : ApcC} {oC oB oA oS : Nat} {W0 w w' : World} {s : ApcS} {l : Nat → Bool}
theorem ApcOk.start (O : ApcOk C W0) : ApcW C oC oB oA oS W0 s (fun _ => false) W0.drew :=
  ⟨(Keep.refl _ _).drew, (fun h => by cases h), fun _ => O.own, (fun h => by cases h), by rw [if_neg (by simp)]; exact O.hob, (fun h => by cases h)⟩
theorem ApcW.other (H : ApcW C oC oB oA oS W0 s l w) (i : Nat) (h0 : i ≠ oC) (h1 : i ≠ oB) (h2 : i ≠ oA) (h3 : i ≠ oS) : ApcW C oC oB oA oS W0 s (upd l i) w := by
  refine ⟨H.kp, ?_, ?_, ?_, ?_, ?_⟩
  · rw [upd_ne h0]; exact H.pth
  · rw [upd_ne h2]; exact H.own0
  · rw [upd_ne h2, upd_ne h0]; exact H.own1
  · rw [upd_ne h3]; exact H.hob
  · rw [upd_ne h1]; exact H.hbs
theorem ApcW.call (H : ApcW C oC oB oA oS W0 s l w) (O : ApcOk C W0) (hn : oC ≠ oB ∧ oC ≠ oA ∧ oC ≠ oS) (hB : l oB = false) (hA : l oA = false) {A : Option Addr} {c : Nat} {q : List Nat} (h1 : OwnA w' C.ti A C.path.length c (ints C.path) q) (h2 : ∀ g ∈ q, w.heap.size ≤ g) (h3 : Below w.heap.size w w') :
    ApcW C oC oB oA oS W0 { s with A1 := A, c1 := c, q1 := q } (upd l oC) w' := by
  have hk : Keep [] w w' := Keep.of_below h3;refine ⟨H.kp.trans hk (by simp), fun _ => ⟨h1, fun g hg => Nat.le_trans H.kp.size (h2 g hg)⟩, ?_, ?_, ?_, ?_⟩
  · rw [upd_ne hn.2.1]; exact fun e => (H.own0 e).keepS hk (by simp)
  · rw [upd_ne hn.2.1, hA]; exact fun e => by cases e
  · rw [upd_ne hn.2.2]; exact (hk.block _ (hL_ H.hob) (by simp)).trans H.hob
  · rw [upd_ne hn.1, hB]; exact fun e => by cases e
theorem ApcW.build (H : ApcW C oC oB oA oS W0 s l w) (hn : oC ≠ oB ∧ oB ≠ oA ∧ oB ≠ oS) (hA : l oA = false) : ApcW C oC oB oA oS W0 { s with bs := w.heap.size } (upd l oB) (w.alloc (.cells (C.ys s.A1 s.c1).toArray C.e)) := by
  refine ⟨H.kp.alloc _, ?_, ?_, ?_, ?_, fun _ => ⟨H.kp.size, heap_alloc_new _ _⟩⟩
  · rw [upd_ne hn.1.symm]; exact fun e => ⟨(H.pth e).1.alloc _, (H.pth e).2⟩
  · rw [upd_ne hn.2.1]; exact fun e => (H.own0 e).alloc _
  · rw [upd_ne hn.2.1, hA]; exact fun e => by cases e
  · rw [upd_ne hn.2.2]; exact hA_ H.hob _
theorem ApcW.app (H : ApcW C oC oB oA oS W0 s l w) (O : ApcOk C W0) (hn : oC ≠ oA ∧ oB ≠ oA ∧ oA ≠ oS) (h8 : l oB = true) (h9 : l oA = false) (h11 : l oS = false) {g c' : Nat} (o1 : OwnS w' C.e C.sz (some ⟨g, 0, none⟩) (C.k + 1) c' (C.xs ++ C.ys s.A1 s.c1) [g]) (o2 : g ∈ C.q ∨ w.heap.size = g) (o3 : Keep C.q w w') :
    ApcW C oC oB oA oS W0 { s with A := some ⟨g, 0, none⟩, c := c', g := g } (upd l oA) w' := by
  have hh := H.hob;rw [h11, if_neg (by simp)] at hh;have hq : ∀ x ∈ C.q, x < W0.heap.size := fun x hx => O.own.lt x hx;refine ⟨H.kp.trans o3 (fun x hx => .inl (by simp [hx])), ?_, ?_, ?_, ?_, ?_⟩
  · rw [upd_ne hn.1.symm];exact fun e => ⟨(H.pth e).1.keepS o3 (fun x hx hm => by have := (H.pth e).2 x hx; have := hq x hm; omega), (H.pth e).2⟩
  · rw [upd_eq]; exact fun e => by cases e
  · rw [upd_ne hn.1.symm];refine fun _ => ⟨o1, ?_, fun e hm => ?_⟩
    · rcases o2 with e | e
      · exact .inl e
      · exact .inr (by have := H.kp.size; simp only; omega)
    · have h1 := (H.pth e).2 g hm;have h2 := (H.pth e).1.lt g hm;rcases o2 with e | e
      · have := hq g e; omega
      · omega
  · rw [upd_ne hn.2.2, h11, if_neg (by simp)]; exact (o3.block _ (hL_ hh) O.obq).trans hh
  · rw [upd_ne hn.2.1.symm];exact fun e => ⟨(H.hbs e).1, (o3.block _ (hL_ (H.hbs e).2) (fun hm => by have := (H.hbs e).1; have := hq _ hm; omega)).trans (H.hbs e).2⟩
theorem ApcW.store (H : ApcW C oC oB oA oS W0 s l w) (O : ApcOk C W0) (hn : oC ≠ oS ∧ oB ≠ oS ∧ oA ≠ oS) (j : Nat) (hnew : ∀ A c, C.new A c = C.old.setIfInBounds j (.slice A (C.k + 1) c)) (h9 : l oA = true) (h11 : l oS = false) :
    ApcW C oC oB oA oS W0 s (upd l oS) (w.setCell ⟨C.ob, j, none⟩ (.slice s.A (C.k + 1) s.c)) := by
  have hh := H.hob;rw [h11, if_neg (by simp)] at hh;have zo := hL_ O.hob;have K : Keep [C.ob] w (w.setCell ⟨C.ob, j, none⟩ (.slice s.A (C.k + 1) s.c)) := (Keep.refl _ _).setCell (.inl (by simp)) _;refine ⟨H.kp.setCell (.inl (by simp)) _, ?_, ?_, ?_, ?_, ?_⟩
  · rw [upd_ne hn.1.symm]; exact fun e => ⟨(H.pth e).1.keepS K (fun x hx => by have := (H.pth e).2 x hx; simp; omega), (H.pth e).2⟩
  · rw [upd_ne hn.2.2.symm, h9]; exact fun e => by cases e
  · rw [upd_ne hn.2.2.symm, upd_ne hn.1.symm];refine fun e => ⟨(H.own1 e).1.keepS K (fun g hg => ?_), (H.own1 e).2⟩;rw [List.mem_singleton.1 hg];simp only [List.mem_singleton];rintro e2;rcases (H.own1 e).2.1 with e3 | e3
    · exact O.obq (e2 ▸ e3)
    · omega
  · rw [upd_eq, if_pos rfl, hnew]; exact hS_ hh j _
  · rw [upd_ne hn.2.1.symm];exact fun e => ⟨(H.hbs e).1, (K.block _ (hL_ (H.hbs e).2) (by have := (H.hbs e).1; simp; omega)).trans (H.hbs e).2⟩
theorem ApcW.at_append {P : Program} {o : Oper} {a : Act} {K : Act → World → Prop} {Q : Exit → Act → World → Prop} (H : ApcW C oC oB oA oS W0 s l w) (O : ApcOk C W0) (x y : Operand) (t : TypeId)
    (ho : o.op = .call { callee := .builtin .append, args := #[x, y], argTypes := #[t, t] })
    (i : TypeInfo) (z : Value) (bytes : Nat) (ht : P.underlying t = some (.slice C.e)) (hi : P.info? C.e = some i) (hz : i.zero = some z)
    (hsize : i.size = C.sz) (hs0 : 0 < C.sz) (hby : i.bytes = bytes) (hzs : z.cells.size = C.sz) (hs : a.eval x = .slice C.A C.k C.c) (hx : a.eval y = .slice (some ⟨s.bs, 0, none⟩) 1 1)
    (hys : (C.ys s.A1 s.c1).length = C.sz) (h1 : ∀ u ∈ C.ys s.A1 s.c1, u.oneCell' = true) (hk : C.k + 1 ≤ 1000000000000) (hbytes : bytes ≤ 100) (hn : oC ≠ oA ∧ oB ≠ oA ∧ oA ≠ oS) (h8 : l oB = true) (h9 : l oA = false) (h11 : l oS = false)
    (h : ∀ g c' w', ApcW C oC oB oA oS W0 { s with A := some ⟨g, 0, none⟩, c := c', g := g } (upd l oA) w' → K (a.put o.dst (.slice (some ⟨g, 0, none⟩) (C.k + 1) c')) w') : o.wp P a w K Q := by
  have hbs := H.hbs h8;refine wp_append_S x y t ho i z bytes ht hi hz hsize hs0 hby hzs hs ⟨s.bs, 0, none⟩ hx (C.ys s.A1 s.c1) (H.own0 h9) hys (fun j v hj => by rw [show (⟨s.bs, 0, none⟩ : Addr).add j = ⟨s.bs, j, none⟩ from by simp [Addr.add]; omega]; exact (cOH hbs.2 j).trans (by simpa using hj)) h1 hk hbytes ?_;intro g c' w' o1 o2 o3 o4;exact h g c' w' (H.app O hn h8 h9 h11 o1 o2 o4)
end
end Go.Proofs.YtalcinepeofmcaaGreat
namespace Go.Proofs.YtalcinepeofmcaaGreat
open Go Go.RowKit Sp Pt
theorem infoRChn : (Tryz.prog.info? 102).map (fun i => (i.zero, i.size, i.bytes)) = some (some (.agg #[.int .i64 0, .int .i64 0, .int .i64 0]), 3, 24) := by kernel_rfl
theorem infoRBrt : (Tryz.prog.info? 103).map (fun i => (i.zero, i.size, i.bytes)) = some (some (.agg #[.int .i64 0, .slice none 0 0]), 2, 32) := by kernel_rfl
theorem Own.upd2 {D : Nat} {W0 w w' : World} {L : List It} (h : Own D W0 L w) (kb ko : Nat) {ob : Nat} {o o' : Obj} {i i' : It} (hb : L[kb]? = some (.blk ob o)) (ho : L[ko]? = some i) (hbo : kb ≠ ko) (hk : Keep (ob :: i.fp) w w') (hh1 : w'.heap[ob]? = some o') (hh2 : i'.holds D w') (hf : ∀ x ∈ i'.fp, x ∈ i.fp ∨ w.heap.size ≤ x) :
    Own D W0 ((L.set kb (.blk ob o')).set ko i') w' := by
  have hkb : kb < L.length := (List.getElem?_eq_some_iff.1 hb).1;have hko : ko < L.length := (List.getElem?_eq_some_iff.1 ho).1;have hget : ∀ {a : Nat} {j : It}, ((L.set kb (.blk ob o')).set ko i')[a]? = some j → (a = ko ∧ j = i') ∨ (a ≠ ko ∧ a = kb ∧ j = .blk ob o') ∨ (a ≠ ko ∧ a ≠ kb ∧ L[a]? = some j) := fun {a j} hj => by
    rw [List.getElem?_set] at hj;by_cases e : ko = a
    · rw [if_pos e, if_pos (by simpa using hko)] at hj;injection hj with hj
      exact .inl ⟨e.symm, hj.symm⟩
    · rw [if_neg e, List.getElem?_set] at hj;by_cases e2 : kb = a
      · rw [if_pos e2, if_pos hkb] at hj;injection hj with hj
        exact .inr (.inl ⟨fun q => e q.symm, e2.symm, hj.symm⟩)
      · rw [if_neg e2] at hj;exact .inr (.inr ⟨fun q => e q.symm, fun q => e2 q.symm, hj⟩)
  refine h.updF _ (fun a => a = kb ∨ a = ko) ko hk (fun x hx => .inl ?_) (fun a j hj => ?_) (fun a j hj hc => ?_)
  · rcases List.mem_cons.1 hx with rfl | hx
    · exact ⟨kb, _, .inl rfl, hb, by simp [It.fp]⟩
    · exact ⟨ko, _, .inr rfl, ho, hx⟩
  · rcases hget hj with ⟨e, _⟩ | ⟨_, e, _⟩ | ⟨_, _, e⟩
    · exact .inl (.inr e)
    · exact .inl (.inl e)
    · exact .inr e
  · rcases hget hj with ⟨e, rfl⟩ | ⟨_, e, rfl⟩ | ⟨e1, e2, e⟩
    · refine ⟨hh2, fun x hx => ?_⟩;rcases hf x hx with q | q
      · exact .inl ⟨i, by rw [e]; exact ho, q⟩
      · exact .inr ⟨e, q⟩
    · exact ⟨hh1, fun x hx => .inl ⟨.blk ob o, by rw [e]; exact hb, hx⟩⟩
    · rcases hc with rfl | rfl
      · exact absurd rfl e2
      · exact absurd rfl e1
def PcvV (ob yb k c m ck : Nat) (d : Int) (A Ak : Option Addr) (s : ApcS) : Nat → Value → Prop
  | 0, v => v = .pointer (some ⟨ob, 1, none⟩)
  | 1, v => v = .slice A k c
  | 2, v => v = .pointer (some ⟨yb, 0, none⟩)
  | 3, v => v = .int .i64 d
  | 4, v => v = .pointer (some ⟨yb, 1, none⟩)
  | 5, v => v = .slice Ak m ck
  | 6, v => v = .slice s.A1 m s.c1
  | 7, v => v = .agg #[.int .i64 d, .slice s.A1 m s.c1]
  | 8, v => v = .slice (some ⟨s.bs, 0, none⟩) 1 1
  | 9, v => v = .slice s.A (k + 1) s.c
  | 10, v => v = .pointer (some ⟨ob, 1, none⟩)
  | _, _ => True
theorem portR_any (Ac : Option Addr) (cc : Nat) (Ab : Option Addr) (cb : Nat) (p : Prt) (w : World) (hp : PrtB w.heap.size w Ac cc Ab cb p) (hl : p.chs.length ≤ 1000) (hs : p.bts.length ≤ 1000) (hpl : ∀ b ∈ p.bts, b.path.length ≤ 1000) :
    Calls Tryz.prog 9 #[.agg (prtV Ac cc Ab cb p)] w (NewPrt w p) := by
  obtain ⟨i0, hi0, hz0, hz1, hz2⟩ := info_parts infoRChn;obtain ⟨i1, hi1, hy0, hy1, hy2⟩ := info_parts infoRBrt;obtain ⟨pb, hpb⟩ : ∃ b, b = w.heap.size := ⟨_, rfl⟩;obtain ⟨rb, hrb⟩ : ∃ b, b = w.heap.size + 1 := ⟨_, rfl⟩;obtain ⟨ob, hob⟩ : ∃ b, b = w.heap.size + 1 + 1 := ⟨_, rfl⟩;obtain ⟨W, hW⟩ : ∃ W, W = (((w.alloc (.cells (prtV Ac cc Ab cb p) 25)).alloc (.cells #[.slice none 0 0, .slice none 0 0, .int .i64 0] 51)).alloc (.cells #[.slice none 0 0, .slice none 0 0, .int .i64 p.tugs] 51)) := ⟨_, rfl⟩;have O0 : Own w.heap.size w [.blk pb (.cells (prtV Ac cc Ab cb p) 25), .blk rb (.cells #[.slice none 0 0, .slice none 0 0, .int .i64 0] 51), .blk ob (.cells #[.slice none 0 0, .slice none 0 0, .int .i64 p.tugs] 51),
      .own 102 3 none 0 0 [] [], .own 103 2 none 0 0 [] []] W := by
    have h := ((((Own.start w).alloc (.cells (prtV Ac cc Ab cb p) 25)).alloc (.cells #[.slice none 0 0, .slice none 0 0, .int .i64 0] 51)).alloc (.cells #[.slice none 0 0, .slice none 0 0, .int .i64 p.tugs] 51));have h2 := (h.new (i := .own 102 3 none 0 0 [] []) (Below.refl _ _) (OwnS.nil _ _ _) (by simp [It.fp])).new (i := .own 103 2 none 0 0 [] []) (Below.refl _ _) (OwnS.nil _ _ _) (by simp [It.fp]);rw [hW, hpb, hrb, hob];simpa using h2
  have HP := Lib.hid (And.intro hp (And.intro O0 hpl));clear hp O0 hpl
  go_enter Tryz.func9, Tryz.ntmps9
  go_wp2_with fail
  rw [← hW, ← hob, ← hrb, ← hpb];clear hW hob hrb hpb
  go_loopg [14] (p.chs.length) (fun g i wr => ∃ (k : Nat) (A : Option Addr) (c : Nat) (q : List Nat), g + k = p.chs.length ∧ i = .int .i64 k ∧
    Own w.heap.size w [.blk pb (.cells (prtV Ac cc Ab cb p) 25), .blk rb (.cells #[.slice none 0 0, .slice none 0 0, .int .i64 0] 51), .blk ob (.cells #[.slice A k c, .slice none 0 0, .int .i64 p.tugs] 51),
      .own 102 3 A k c (chcs (p.chs.take k)) q, .own 103 2 none 0 0 [] []] wr)
  case atStart => exact ⟨0, none, 0, [], rfl, rfl, HP.out.2.1⟩
  case round =>
    obtain ⟨k, A, c, q, hk, rfl, hO⟩ := hrel;have o1 := (cOH (hO.heap 2 rfl) 0).trans rfl;have zo := hL_ (hO.heap 2 rfl);by_cases hlt : k < p.chs.length
    · obtain ⟨b, off, rfl, hb, hc⟩ := ((HP.out.1.chs).below hO.bel).2 (by omega);obtain ⟨s0, s1, s2⟩ := chcs_get hlt;have c0 := hc _ _ s0;have c1 : wr.cell? ⟨b, off + k * 3 + 1, none⟩ = _ := hc _ _ s1;have c2 : wr.cell? ⟨b, off + k * 3 + 2, none⟩ = _ := hc _ _ s2;obtain ⟨x, hx⟩ : ∃ x, x = p.chs[k] := ⟨_, rfl⟩;rw [← hx] at c0 c1 c2;have n2 : (k : Int) < (p.chs.length : Int) := by omega
      have HS := Lib.hid (And.intro hO hx);clear hc s0 s1 s2 hO hx
      go_wp2_with (at_builtin
                   refine wpList_append_S (size := 3) rfl (.tmp 19) (.tmp 21) 48 rfl i0 _ 24 Tryz.underlying48 hi0 hz0 hz1 (by decide) hz2 rfl (A := A) (n := k) (c := c) (xs := chcs (p.chs.take k)) (fp := q) (by simp [Act.eval]) ⟨wr.heap.size + 1, 0, none⟩ (by simp [Act.eval]) (chc x) (((HS.out.1.owns 3 rfl).alloc _).alloc _) rfl ?_ (by simp [chc, Value.oneCell']) (by omega) (by omega) ?_
                   · intro j v hv;rw [show (⟨wr.heap.size + 1, 0, none⟩ : Addr).add j = ⟨wr.heap.size + 1, j, none⟩ from by simp [Addr.add]; omega];have := World.cell?_alloc_new (wr.alloc (.cells #[.int .i64 x.grow, .int .i64 x.frost, .int .i64 x.clear] 99)) #[.int .i64 x.grow, .int .i64 x.frost, .int .i64 x.clear] 102 j;rw [World.size_alloc] at this;rw [this];simpa [chc] using hv
                   intro g c' w5 h1 h2 h3 h4;rw [HS.out.2, chcs_snoc hlt] at h1;have hq := HS.out.1.app3 2 3 rfl rfl (by decide) (((Below.refl _ _).alloc (Nat.le_refl _) _).alloc (by simp) _) h1 h2 h4 0 (.slice (some ⟨g, 0, none⟩) (k + 1) c');have d0 : w5.cell? ⟨ob, 0, none⟩ = some (.slice A k c) := (cOH hq.1 0).trans rfl;have d1 := fOH hq.1 0;have HQ := Lib.hid hq.2;clear h1 h2 h3 h4 hq)
      go_roundg (gk - 1);case measure => omega
      case rel => exact ⟨k + 1, some ⟨g, 0, none⟩, c', [g], by omega, by go_num, HQ.out⟩
    · obtain rfl : k = p.chs.length := by omega
      rw [List.take_length] at hO;have HS := Lib.hid hO;have p2 := (cOH (hO.heap 0 rfl) 1).trans rfl;have zp := hL_ (hO.heap 0 rfl);clear hO o1 zo;obtain ⟨w1, hw1⟩ : ∃ w1, w1 = wr := ⟨_, rfl⟩;subst hw1;obtain ⟨Ac1, hA1⟩ : ∃ A1, A1 = A := ⟨_, rfl⟩;obtain ⟨cc1, hc1⟩ : ∃ c1, c1 = c := ⟨_, rfl⟩;obtain ⟨q1, hq1⟩ : ∃ q1, q1 = q := ⟨_, rfl⟩;subst hA1 hc1 hq1;go_wp2_with fail
      go_loopg [28] (p.bts.length) (fun g i wr => ∃ (k : Nat) (A : Option Addr) (c : Nat) (q : List Nat) (L : List BrR), g + k = p.bts.length ∧ i = .int .i64 k ∧ L.map (·.b) = p.bts.take k ∧ PathsN (rb :: ob :: (q ++ List.range w.heap.size)) wr L ∧
        Own w.heap.size w [.blk pb (.cells (prtV Ac cc Ab cb p) 25), .blk rb (.cells #[.slice none 0 0, .slice none 0 0, .int .i64 0] 51), .blk ob (.cells #[.slice Ac1 p.chs.length cc1, .slice A k c, .int .i64 p.tugs] 51), .own 102 3 Ac1 p.chs.length cc1 (chcs p.chs) q1, .own 103 2 A k c (brcs L) q] wr)
      case atStart => exact ⟨0, none, 0, [], [], rfl, rfl, rfl, fun y hy => absurd hy (by simp), HS.out⟩
      case round =>
        obtain ⟨k, A, c, q, L, hk, rfl, hLb, hP, hO⟩ := hrel;have o2 := (cOH (hO.heap 2 rfl) 1).trans rfl;have zo := hL_ (hO.heap 2 rfl);by_cases hlt : k < p.bts.length
        · obtain ⟨b, off, Ak, ck, rfl, hbD, d1, d2, d3⟩ := HP.out.1.bts k hlt;have e1 := (hO.bel.cell (p := ⟨b, off + k * 2, none⟩) (show b < w.heap.size by omega)).trans d1;have e2 := (hO.bel.cell (p := ⟨b, off + k * 2 + 1, none⟩) (show b < w.heap.size by omega)).trans d2;have hyp := HP.out.2.2 _ (List.getElem_mem hlt);obtain ⟨⟨d, path⟩, hx⟩ : ∃ x, x = p.bts[k] := ⟨_, rfl⟩;rw [← hx] at e1 e2 d3 hyp;simp only at e1 e2 d3 hyp;obtain ⟨m, hm⟩ : ∃ m, m = path.length := ⟨_, rfl⟩;rw [← hm] at e2 hyp;have zb : b < wr.heap.size := by have := hO.bel.size; omega
          have zp' := hL_ (hO.heap 0 rfl);have n2 : (k : Int) < (p.bts.length : Int) := by omega
          have HS2 := Lib.hid (And.intro hLb (And.intro hP (And.intro hO (And.intro hx (And.intro hm d3)))));clear hLb hP hO hx d3 d1 d2 o2 hm;go_upto_region 10 with fail
          obtain ⟨yb, hyb⟩ : ∃ b, b = wr.heap.size := ⟨_, rfl⟩;obtain ⟨X, hX⟩ : ∃ X, X = wr.alloc (.cells #[.int .i64 d, .slice Ak m ck] 83) := ⟨_, rfl⟩;rw [← hX, ← hyb];obtain ⟨hLb, hP, hO, hx, hm, d3⟩ := HS2.out;have bX : Below wr.heap.size wr X := by rw [hX]; exact (Below.refl _ _).alloc (Nat.le_refl _) _
          have OX := hO.below bX;have hq := fun x (hx : x ∈ q) => hO.lt 4 rfl (x := x) hx;have y0 : X.cell? ⟨yb, 0, none⟩ = some (.int .i64 d) := by rw [hX, hyb]; exact (cOH (heap_alloc_new wr _) 0).trans rfl
          have y1 : X.cell? ⟨yb, 1, none⟩ = some (.slice Ak m ck) := by rw [hX, hyb]; exact (cOH (heap_alloc_new wr _) 1).trans rfl
          have zy : yb < X.heap.size := by rw [hX, hyb]; simp
          have hyo : yb ∉ ob :: q := by rw [hyb]; intro hm'; rcases List.mem_cons.1 hm' with e | e; (have := hO.lt 2 rfl (x := ob) (by simp [It.fp]); omega); (have := hq _ e; omega)
          have O : ApcOk ⟨ob, 103, 2, k, A, c, brcs L, q, path, 3, (fun A1 c1 => [.int .i64 d, .slice A1 m c1]), #[.slice Ac1 p.chs.length cc1, .slice A k c, .int .i64 p.tugs], (fun A c => #[.slice Ac1 p.chs.length cc1, .slice A (k + 1) c, .int .i64 p.tugs]), 51⟩ X := ⟨OX.owns 4 rfl, OX.heap 2 rfl, fun hm' => OX.dis 2 4 _ _ rfl rfl (by decide) ob (by simp [It.fp]) hm'⟩;have CI : ∀ wx, Keep (ob :: q) X wx → Calls Tryz.prog 35 #[.slice Ak m ck] wx fun e w' => ∃ A1 c1 q1, e = .returned (.slice A1 m c1) ∧ OwnA w' 3 A1 path.length c1 (ints path) q1 ∧ (∀ g ∈ q1, wx.heap.size ≤ g) ∧ Below wx.heap.size wx w' := by
            intro wx hk;have hB := OX.bel.trans (hk.below OX.lo (fun x hx => by rcases List.mem_cons.1 hx with e | e; (rw [e]; exact OX.ge 2 rfl (by simp [It.fp])); exact OX.ge 4 rfl (x := x) e));rw [hm];exact copyIntsO_any Ak ck path wx ((d3.below hB).1.rd hB.size) (by omega)
          have HX := Lib.hid (And.intro O (And.intro y0 (And.intro y1 (And.intro hyo CI))));have HO2 := Lib.hid (And.intro OX (And.intro (hP.below bX) (And.intro hLb (And.intro hx hm))));have zX := hL_ (OX.heap 2 rfl);have zX1 := hL_ (OX.heap 1 rfl);have zX0 := hL_ (OX.heap 0 rfl);clear hLb hP hO hx hm d3 bX OX hq y0 y1 hyo O CI hX hyb zo zb zp' e1 e2;refine wRS (σ := ApcS) (by kernel_rfl) (by kernel_rfl) (fun sg jx vx _ => PcvV ob yb k c m ck d A Ak sg jx vx) (fun sg ly wx => ApcW ⟨ob, 103, 2, k, A, c, brcs L, q, path, 3, (fun A1 c1 => [.int .i64 d, .slice A1 m c1]), #[.slice Ac1 p.chs.length cc1, .slice A k c, .int .i64 p.tugs], (fun A c => #[.slice Ac1 p.chs.length cc1, .slice A (k + 1) c, .int .i64 p.tugs]), 51⟩ 6 8 9 11 X sg ly wx) ⟨none, 0, [], 0, none, 0, 0⟩ ?_ ?_ ?_
          · exact HX.out.1.start
          · simp only [AllFrom, Nat.zero_add, Nat.reduceAdd];refine ⟨?_, ?_, ?_, ?_, ?_, ?_, ?_, ?_, ?_, ?_, ?_, ?_, trivial⟩
            · refine sP_ fun sg ly a wx hl hd hW hF => ?_;have et3 := hF.old 3 (by kernel_rfl);simp [Act.eval] at et3;exact ⟨hW.other 0 (by decide) (by decide) (by decide) (by decide), .pointer (some ⟨ob, 1, none⟩), by go_simp, rfl⟩
            · refine sP_ fun sg ly a wx hl hd hW hF => ?_;simp [Region.binds] at hd;have et32 := hF.new 0 32 (by simp [hd]) rfl;simp [PcvV, Act.eval] at et32;have nS_9 := hF.notYet 1 9 hl (by kernel_rfl);have nS := hF.notYet 9 11 nS_9 (by kernel_rfl);have hh := hW.hob;rw [if_neg (by simp [nS])] at hh;have cL := (cOH hh 1).trans rfl;have zL := hL_ hh;exact ⟨hW.other 1 (by decide) (by decide) (by decide) (by decide), _, by go_simp, rfl⟩
            · refine sP_ fun sg ly a wx hl hd hW hF => ?_;have et7 := hF.old 7 (by kernel_rfl);simp [Act.eval] at et7;exact ⟨hW.other 2 (by decide) (by decide) (by decide) (by decide), .pointer (some ⟨yb, 0, none⟩), by go_simp, rfl⟩
            · refine sP_ fun sg ly a wx hl hd hW hF => ?_;simp [Region.binds] at hd;have et34 := hF.new 2 34 (by simp [hd]) rfl;simp [PcvV, Act.eval] at et34;have cL := hW.kp.cell HX.out.2.1 HX.out.2.2.2.1;exact ⟨hW.other 3 (by decide) (by decide) (by decide) (by decide), .int .i64 d, by go_simp, rfl⟩
            · refine sP_ fun sg ly a wx hl hd hW hF => ?_;have et7 := hF.old 7 (by kernel_rfl);simp [Act.eval] at et7;exact ⟨hW.other 4 (by decide) (by decide) (by decide) (by decide), .pointer (some ⟨yb, 1, none⟩), by go_simp, rfl⟩
            · refine sP_ fun sg ly a wx hl hd hW hF => ?_;simp [Region.binds] at hd;have et36 := hF.new 4 36 (by simp [hd]) rfl;simp [PcvV, Act.eval] at et36;have cL := hW.kp.cell HX.out.2.2.1 HX.out.2.2.2.1;exact ⟨hW.other 5 (by decide) (by decide) (by decide) (by decide), .slice Ak m ck, by go_simp, rfl⟩
            · refine sC_ fun sg ly a wx hl hd hW hF => ?_;simp [Region.binds] at hd;have et37 := hF.new 5 37 (by simp [hd]) rfl;simp [PcvV, Act.eval] at et37;have n7 := hF.notYet 6 7 hl (by kernel_rfl);have n8_7 := hF.notYet 6 7 hl (by kernel_rfl);have n8 := hF.notYet 7 8 n8_7 (by kernel_rfl);have n9_7 := hF.notYet 6 7 hl (by kernel_rfl);have n9_8 := hF.notYet 7 8 n9_7 (by kernel_rfl);have n9 := hF.notYet 8 9 n9_8 (by kernel_rfl);refine ⟨35, #[.slice Ak m ck], by go_simp, ?_⟩;refine (HX.out.2.2.2.2 wx hW.kp).mono ?_;rintro e w2 ⟨A', c', q', rfl, h1, h2, h3⟩;refine ⟨_, { sg with A1 := A', c1 := c', q1 := q' }, rfl, hW.call HX.out.1 (by decide) n8 n9 h1 h2 h3, rfl, ?_⟩;intro i u hi h;have i6 : i ≠ 6 := by rintro rfl; rw [hl] at hi; cases hi
              have i7 : i ≠ 7 := by rintro rfl; rw [n7] at hi; cases hi
              unfold PcvV at h ⊢;split at h <;> first | exact h | exact absurd rfl i6 | exact absurd rfl i7
            · refine sP_ fun sg ly a wx hl hd hW hF => ?_;simp [Region.binds] at hd;have et35 := hF.new 3 35 (by simp [hd]) rfl;simp [PcvV, Act.eval] at et35;have et38 := hF.new 6 38 (by simp [hd]) rfl;simp [PcvV, Act.eval] at et38;exact ⟨hW.other 7 (by decide) (by decide) (by decide) (by decide), .agg #[.int .i64 d, .slice sg.A1 m sg.c1], by go_simp, rfl⟩
            · refine sR_ fun sg ly a wx hl hd hW hF => ?_;simp [Region.binds] at hd;have et39 := hF.new 7 39 (by simp [hd]) rfl;simp [PcvV, Act.eval] at et39;have n9 := hF.notYet 8 9 hl (by kernel_rfl);refine ⟨_, wx.alloc (.cells #[.int .i64 d, .slice sg.A1 m sg.c1] 103), { sg with bs := wx.heap.size }, by go_simp, hW.build (by decide) n9, rfl, ?_⟩;intro i u hi h;have i8 : i ≠ 8 := by rintro rfl; rw [hl] at hi; cases hi
              unfold PcvV at h ⊢;split at h <;> first | exact h | exact absurd rfl i8
            · intro sg ly a wx hl hd hW hF;simp [Region.binds] at hd;have et33 := hF.new 1 33 (by simp [hd]) rfl;simp [PcvV, Act.eval] at et33;have et40 := hF.new 8 40 (by simp [hd]) rfl;simp [PcvV, Act.eval] at et40;have nS := hF.notYet 9 11 hl (by kernel_rfl);have yB : ly 8 = true := by simp [hd]
              refine hW.at_append HX.out.1 (.tmp 33) (.tmp 40) 49 rfl i1 _ 32 Tryz.underlying49 hi1 hy0 hy1 (show (0 : Nat) < 2 from by decide) hy2 rfl (by simpa [Act.eval] using et33) (by simpa [Act.eval] using et40) rfl (by intro u hu; simp at hu; rcases hu with rfl | rfl <;> rfl) (by simp only; omega) (by omega) (by decide) yB hl nS ?_;intro g c' w' h';refine ⟨{ sg with A := some ⟨g, 0, none⟩, c := c', g := g }, _, rfl, h', fun _ => rfl, ?_⟩;intro i u hi h;have i9 : i ≠ 9 := by rintro rfl; rw [hl] at hi; cases hi
              unfold PcvV at h ⊢;split at h <;> first | exact h | exact absurd rfl i9
            · refine sP_ fun sg ly a wx hl hd hW hF => ?_;have et3 := hF.old 3 (by kernel_rfl);simp [Act.eval] at et3;exact ⟨hW.other 10 (by decide) (by decide) (by decide) (by decide), .pointer (some ⟨ob, 1, none⟩), by go_simp, rfl⟩
            · refine sS_ rfl fun sg ly a wx hl hd hW hF => ?_;simp [Region.binds] at hd;have et42 := hF.new 10 42 (by simp [hd]) rfl;simp [PcvV, Act.eval] at et42;have et41 := hF.new 9 41 (by simp [hd]) rfl;simp [PcvV, Act.eval] at et41;have yA : ly 9 = true := by simp [hd]
              have hh := hW.hob;rw [if_neg (by simp [hl])] at hh;have cL := (cOH hh 1).trans rfl;have fL := fOH hh 1;have zL := hL_ hh;exact ⟨_, sg, .skip, by go_simp, .inl rfl, hW.store HX.out.1 (by decide) 1 (fun _ _ => rfl) yA hl, fun _ _ _ h => h⟩
          intro sg af w5 hWW hF;obtain ⟨ff, hf, rfl⟩ := hF.lit;obtain ⟨p1, p2⟩ := hWW.pth rfl;obtain ⟨o1, o2, o3⟩ := hWW.own1 rfl;have o3 := o3 rfl;have hob5 := hWW.hob;have k5 := hWW.kp;simp only [List.length_cons, List.length_nil, Nat.reduceAdd, Nat.reduceLT, decide_true, if_true] at hob5;obtain ⟨hO, hP, hLb, hx, hm⟩ := HO2.out;simp only at o1 o2 p1;have e1 : brcs L ++ [.int .i64 d, .slice sg.A1 m sg.c1] = brcs (L ++ [(⟨⟨d, path⟩, sg.A1, sg.c1⟩ : BrR)]) := by simp [brcs, brc, hm]
          rw [e1] at o1;have hN := And.intro (hO.upd2 2 4 rfl rfl (by decide) k5 hob5 (i' := .own 103 2 sg.A (k + 1) sg.c (brcs (L ++ [(⟨⟨d, path⟩, sg.A1, sg.c1⟩ : BrR)])) [sg.g]) (show OwnS _ _ _ _ _ _ _ _ from o1) (fun x hx => by rw [List.mem_singleton.1 hx]; exact o2))
            (And.intro (show PathsN (rb :: ob :: ([sg.g] ++ List.range w.heap.size)) w5 (L ++ [(⟨⟨d, path⟩, sg.A1, sg.c1⟩ : BrR)]) from (hP.keep k5 (fun x hx => .inl (by rcases List.mem_cons.1 hx with e | e; simp [e]; simp [show x ∈ q from e])) (fun x hx => by
              simp only [List.mem_cons, List.not_mem_nil, or_false, List.mem_append, false_or] at hx;rcases hx with rfl | rfl | rfl | hx
              · exact .inl (by simp)
              · exact .inl (by simp)
              · rcases o2 with e | e
                · exact .inl (by simp [show sg.g ∈ q from e])
                · exact .inr e
              · exact .inl (by simp only [List.mem_cons, List.mem_append]; exact .inr (.inr (.inr hx))))).snoc (PathN.of_ownA p1 (fun x hx hm' => by
              have := p2 x hx;simp only [List.mem_cons, List.not_mem_nil, or_false, List.mem_append, false_or] at hm';rcases hm' with rfl | rfl | rfl | hm'
              · omega
              · omega
              · exact o3 hx
              · have := hO.bel.size; have := List.mem_range.1 hm'; omega)))
            (show (L ++ [(⟨⟨d, path⟩, sg.A1, sg.c1⟩ : BrR)]).map (·.b) = p.bts.take (k + 1) from by rw [List.take_succ_eq_append_getElem hlt, ← hx, List.map_append, hLb]; rfl))
          have HN := Lib.hid hN;clear hf hF hWW p1 p2 o1 o2 o3 hob5 k5 hO hP hLb hx hm e1 hN;simp only [List.filterMap, List.foldl, List.setIfInBounds_toArray, List.set_cons_succ, List.set_cons_zero];go_wp2_with fail
          go_roundg (gk - 1);case measure => omega
          case rel => exact ⟨k + 1, sg.A, sg.c, [sg.g], _, by omega, by go_num, HN.out.2.2, HN.out.2.1, HN.out.1⟩
        · obtain rfl : k = p.bts.length := by omega
          rw [List.take_length] at hLb;have hob4 := hO.heap 2 rfl;have hr4 := hO.heap 1 rfl;have q0 := (cOH hob4 0).trans rfl;have q1' := (cOH hob4 1).trans rfl;have q2' := (cOH hob4 2).trans rfl;have f0 := fOH hr4 0;have f1 := fOH hr4 1;have f2 := fOH hr4 2;have r0 := (cOH hr4 0).trans rfl;have r1 := (cOH hr4 1).trans rfl;have r2 := (cOH hr4 2).trans rfl;have zr4 := hL_ hr4;have H5 := Lib.hid (And.intro hO (And.intro hP (And.intro hLb hr4)));clear hO hP hLb hob4 hr4;go_wp2_with fail
          obtain ⟨hO, hP, hLb, hr4⟩ := H5.out;have ew := hS_ (hS_ (hS_ hr4 0 (.slice Ac1 p.chs.length cc1)) 1 (.slice A p.bts.length c)) 2 (.int .i64 p.tugs);have y0 := (cOH ew 0).trans rfl;have y1 := (cOH ew 1).trans rfl;have y2 := (cOH ew 2).trans rfl;have kr : Keep [rb] wr (((wr.setCell ⟨rb, 0, none⟩ (.slice Ac1 p.chs.length cc1)).setCell ⟨rb, 1, none⟩ (.slice A p.bts.length c)).setCell ⟨rb, 2, none⟩ (.int .i64 p.tugs)) := (((Keep.refl _ _).setCell (.inl (by simp)) _).setCell (.inl (by simp)) _).setCell (.inl (by simp)) _;have hset := hO.set 1 rfl kr ew;refine bodyPost_ret (v := .agg (prtV Ac1 cc1 A c p)) (by simp [results, Tryz.results9, go_sem, y0, y1, y2]) rfl ?_;exact ⟨Ac1, cc1, A, c, _, rfl, prtH_new (hset.owns 3 rfl) (hset.owns 4 rfl) hLb (hP.keep kr (fun x hx => .inl (by rw [List.mem_singleton.1 hx]; simp)) (fun x hx => .inl (by simp at hx; simp [hx]))) (fun x hx => hO.ge 3 rfl (x := x) hx) (fun x hx => hO.ge 4 rfl (x := x) hx), fun x hx => (mem_newQ.1 hx).1, hset.bel⟩
end Go.Proofs.YtalcinepeofmcaaGreat

namespace Go.Proofs.YtalcinepeofmcaaGreat
open Go Go.RowKit Sp Pt
theorem sameRChn (x : Chn) (w : World) : (binOp .neq 102 (.agg #[.int .i64 x.grow, .int .i64 x.frost, .int .i64 x.clear]) (.agg #[.int .i64 x.grow, .int .i64 x.frost, .int .i64 x.clear])).run Tryz.prog w = .ok (.bool false) w := by
  have u3 := Tryz.underlying3;have a3 := Tryz.isAgg3;have z3 := Tryz.sizeOf3;have hS : Tryz.prog.underlying 102 = some (.struct (Tryz.prog.fieldsOf 102)) := by kernel_rfl
  have hp : Tryz.prog.stoodInHeld 102 = false := by kernel_rfl
  rw [run_neq_struct, show (10000 : Nat) = 9999 + 1 from rfl, run_equalIn_agg w 9999 102 _ _ hS hp];simp only [Program.fieldsOf, Tryz.underlying102];go_simp
theorem eqRChn_same (A : Option Addr) (c : Nat) (l : List Chn) (B : Option Addr) (d : Nat) (w : World) (hr : Rd w 3 A l.length (chcs l)) (hr2 : Rd w 3 B l.length (chcs l)) (hm : l.length ≤ 9223372036854775807) :
    Calls Tryz.prog 48 #[.slice A l.length c, .slice B l.length d] w fun e w' => e = .returned (.bool true) ∧ Below w.heap.size w w' := by
  go_enter Tryz.func48, Tryz.ntmps48
  go_wp2_with fail
  go_loopg [13] (l.length) (fun g i wr => ∃ k : Nat, g + k = l.length ∧ i = .int .i64 k ∧ Keep [] w wr)
  case atStart => exact ⟨0, rfl, rfl, Keep.refl _ _⟩
  case round =>
    obtain ⟨k, hk, rfl, hK⟩ := hrel;have HB := Lib.hid hK;by_cases hlt : k < l.length
    · obtain ⟨b, off, rfl, hbb, hc⟩ := hr.2 (by omega);obtain ⟨b2, off2, rfl, hbb2, hc2⟩ := hr2.2 (by omega);obtain ⟨x, hx'⟩ : ∃ x, x = l[k] := ⟨_, rfl⟩;obtain ⟨s0, s1, s2⟩ := chcs_get hlt;rw [← hx'] at s0 s1 s2;have bk : ∀ o u, w.cell? ⟨b, o, none⟩ = some u → wr.cell? ⟨b, o, none⟩ = some u := fun o u h => hK.cell h (by simp);have bk2 : ∀ o u, w.cell? ⟨b2, o, none⟩ = some u → wr.cell? ⟨b2, o, none⟩ = some u := fun o u h => hK.cell h (by simp);have c0 := bk (off + k*3) _ (hc _ _ s0);have d0 := bk2 (off2 + k*3) _ (hc2 _ _ s0);have c1 := bk (off + k*3 + 1) _ (hc _ _ s1);have d1 := bk2 (off2 + k*3 + 1) _ (hc2 _ _ s1);have c2 := bk (off + k*3 + 2) _ (hc _ _ s2);have d2 := bk2 (off2 + k*3 + 2) _ (hc2 _ _ s2);clear bk bk2 s0 s1 s2;have hkI : (0 : Int) ≤ (k : Int) ∧ (k : Int) < (l.length : Int) := by omega
      clear hx' hK hc hc2 hr hr2;have hne : ∀ w, (binOp .neq 102 (.agg #[.int .i64 x.grow, .int .i64 x.frost, .int .i64 x.clear]) (.agg #[.int .i64 x.grow, .int .i64 x.frost, .int .i64 x.clear])).run Tryz.prog w = .ok (.bool false) w := fun w => sameRChn x w;go_upto_region 6 with fail
      go_quiet (fail);go_wp2_with fail
      go_roundg (gk - 1);case measure => omega
      case rel => exact ⟨k + 1, by omega, by go_num, HB.out.drewN _⟩
    · obtain rfl : k = l.length := by omega
      clear hK;go_wp2_with fail
      go_ret;exact ⟨rfl, HB.out.below (Nat.le_refl _) (by simp)⟩
theorem sameBrt_any (d : Int) (path : List Int) (A B : Option Addr) (c1 c2 : Nat) (w : World) (h1 : Rd w 1 A path.length (ints path)) (h2 : Rd w 1 B path.length (ints path)) (hl : path.length ≤ 1000) :
    Calls Tryz.prog 50 #[.agg #[.int .i64 d, .slice A path.length c1], .agg #[.int .i64 d, .slice B path.length c2]] w fun e w' => e = .returned (.bool true) ∧ Below w.heap.size w w' := by
  have hd : (d == d) = true := by simp
  have hk : ∀ wx, Below w.heap.size w wx → Calls Tryz.prog 51 #[.slice A path.length c1, .slice B path.length c2] wx fun e w' => e = .returned (.bool true) ∧ Below w.heap.size w w' := by
    intro wx hb;refine (sameInts_any A c1 path B c2 wx (h1.below hb) (h2.below hb) (by omega)).mono ?_;rintro e w' ⟨rfl, h⟩;exact ⟨rfl, hb.trans (h.mono hb.size)⟩
  obtain ⟨n, hn⟩ : ∃ n, n = path.length := ⟨_, rfl⟩;rw [← hn] at hk;rw [← hn];have H := Lib.hid (And.intro hk hn);clear hk hn h1 h2 hl
  go_enter Tryz.func50, Tryz.ntmps50
  go_wp2_with (go_at_call 51; refine (H.out.1 _ (((Below.refl _ _).alloc (Nat.le_refl _) _).alloc (by simp) _)).mono ?_; rintro e w' ⟨rfl, hb⟩; have HB := Lib.hid hb; clear hb)
  go_ret;exact ⟨by simp, HB.out⟩
theorem sameBrts_any (A : Option Addr) (c : Nat) (L : List BrR) (B : Option Addr) (d : Nat) (M : List BrR) (w : World) (hr : Rd w 2 A L.length (brcs L)) (hr2 : Rd w 2 B L.length (brcs M)) (hb : L.map (·.b) = M.map (·.b)) (hp : ∀ y ∈ L, Rd w 1 y.A y.b.path.length (ints y.b.path) ∧ y.b.path.length ≤ 1000) (hp2 : ∀ y ∈ M, Rd w 1 y.A y.b.path.length (ints y.b.path)) (hm : L.length ≤ 1000) :
    Calls Tryz.prog 49 #[.slice A L.length c, .slice B L.length d, .func (.func 50) #[] #[]] w fun e w' => e = .returned (.bool true) ∧ Below w.heap.size w w' := by
  have hlen : M.length = L.length := by have := congrArg List.length hb; simpa using this.symm
  have H := Lib.hid (And.intro hr (And.intro hr2 (And.intro hb (And.intro hp hp2))));have hne : ((L.length : Int) != (L.length : Int)) = false := by simp
  clear hr hr2 hb hp hp2
  go_enter Tryz.func49, Tryz.ntmps49
  go_wp2_with fail
  go_loopg [17] (L.length) (fun g i wr => ∃ k : Nat, g + k = L.length ∧ i = .int .i64 k ∧ Below w.heap.size w wr)
  case atStart => exact ⟨0, rfl, rfl, Below.refl _ _⟩
  case round =>
    obtain ⟨k, hk, rfl, hb⟩ := hrel;by_cases hlt : k < L.length
    · obtain ⟨b1, o1, rfl, z1, k1⟩ := H.out.1.2 (by omega);obtain ⟨b2, o2, rfl, z2, k2⟩ := H.out.2.1.2 (by omega);obtain ⟨g0, g1⟩ := brcs_get (l := L) (k := k) hlt;obtain ⟨g2, g3⟩ := brcs_get (l := M) (k := k) (by omega);have hLk := H.out.2.2.2.1 _ (List.getElem_mem hlt);have hMk := H.out.2.2.2.2 _ (List.getElem_mem (show k < M.length by omega));have heq : L[k].b = (M[k]'(by omega)).b := by
        have h := congrArg (fun l => l[k]?) H.out.2.2.1;simp [List.getElem?_eq_getElem hlt, List.getElem?_eq_getElem (show k < M.length by omega)] at h;exact h
      obtain ⟨⟨⟨dp, path⟩, A1, c1⟩, hy⟩ : ∃ y, y = L[k] := ⟨_, rfl⟩;obtain ⟨⟨⟨dp2, path2⟩, A2, c2⟩, hy2⟩ : ∃ y, y = M[k]'(by omega) := ⟨_, rfl⟩;rw [← hy] at g0 g1 hLk heq;rw [← hy2] at g2 g3 hMk heq;simp only at g0 g1 g2 g3 hLk hMk heq;obtain ⟨rfl, rfl⟩ : dp2 = dp ∧ path2 = path := by injection heq with e1 e2; exact ⟨e1.symm, e2.symm⟩
      have c0 := (hb.cell (p := ⟨b1, o1 + k * 2, none⟩) z1).trans (k1 _ _ g0);have c1' := (hb.cell (p := ⟨b1, o1 + k * 2 + 1, none⟩) z1).trans (k1 (k * 2 + 1) _ g1);have c2' := (hb.cell (p := ⟨b2, o2 + k * 2, none⟩) z2).trans (k2 _ _ g2);have c3 := (hb.cell (p := ⟨b2, o2 + k * 2 + 1, none⟩) z2).trans (k2 (k * 2 + 1) _ g3);have hcall : ∀ wx, Below w.heap.size w wx → Calls Tryz.prog 50 #[.agg #[.int .i64 dp2, .slice A1 path2.length c1], .agg #[.int .i64 dp2, .slice A2 path2.length c2]] wx fun e w' => e = .returned (.bool true) ∧ Below w.heap.size w w' := by
        intro wx hb';refine (sameBrt_any dp2 path2 A1 A2 c1 c2 wx (hLk.1.below hb') (hMk.below hb') hLk.2).mono ?_;rintro e w' ⟨rfl, h⟩;exact ⟨rfl, hb'.trans (h.mono hb'.size)⟩
      obtain ⟨n, hn⟩ : ∃ n, n = path2.length := ⟨_, rfl⟩;rw [← hn] at hcall c1' c3;have zb1 : b1 < wr.heap.size := by have := hb.size; omega
      have zb2 : b2 < wr.heap.size := by have := hb.size; omega
      have n2 : (k : Int) < (L.length : Int) := by omega
      have HC := Lib.hid (And.intro hcall hb);clear k1 k2 g0 g1 g2 g3 hLk hMk hy hy2 hcall hn hb heq;go_wp2_with (go_at_call 50; refine (HC.out.1 _ ((HC.out.2.alloc HC.out.2.size _).alloc (by have := HC.out.2.size; simp; omega) _)).mono ?_; rintro e w' ⟨rfl, hb'⟩; have HB := Lib.hid hb'; clear hb')
      go_roundg (gk - 1);case measure => omega
      case rel => exact ⟨k + 1, by omega, by go_num, HB.out⟩
    · have HB := Lib.hid hb;clear hb;obtain rfl : k = L.length := by omega
      go_wp2_with fail
      go_ret;exact ⟨rfl, HB.out⟩
theorem samePort_any (Ac : Option Addr) (cc : Nat) (Ab : Option Addr) (cb : Nat) (Ac2 : Option Addr) (cc2 : Nat) (Ab2 : Option Addr) (cb2 : Nat) (p : Prt) (w : World) (hp : PrtB w.heap.size w Ac cc Ab cb p) (hq : PrtB w.heap.size w Ac2 cc2 Ab2 cb2 p) (hl : p.chs.length ≤ 1000) (hs : p.bts.length ≤ 1000) (hpl : ∀ b ∈ p.bts, b.path.length ≤ 1000) :
    Calls Tryz.prog 22 #[.agg (prtV Ac cc Ab cb p), .agg (prtV Ac2 cc2 Ab2 cb2 p)] w fun e w' => e = .returned (.bool true) ∧ Below w.heap.size w w' := by
  obtain ⟨W, hW⟩ : ∃ W, W = (w.alloc (.cells (prtV Ac cc Ab cb p) 25)).alloc (.cells (prtV Ac2 cc2 Ab2 cb2 p) 51) := ⟨_, rfl⟩;have b0 : Below w.heap.size w W := by rw [hW]; exact ((Below.refl _ _).alloc (Nat.le_refl _) _).alloc (by simp) _
  have kc : Calls Tryz.prog 9 #[.agg (prtV Ac cc Ab cb p)] W _ := portR_any Ac cc Ab cb p W ((hp.below b0).mono b0.size) hl hs hpl;have gp : W.heap[w.heap.size]? = some (.cells (prtV Ac cc Ab cb p) 25 (0, 0)) := by rw [hW]; exact hA_ (heap_alloc_new _ _) _
  have gq : W.heap[w.heap.size + 1]? = some (.cells (prtV Ac2 cc2 Ab2 cb2 p) 51 (0, 0)) := by
    rw [hW];have := heap_alloc_new (w.alloc (.cells (prtV Ac cc Ab cb p) 25)) (.cells (prtV Ac2 cc2 Ab2 cb2 p) 51)
    rwa [World.size_alloc] at this
  have HG := Lib.hid (And.intro gp gq);have HH := Lib.hid (And.intro kc (And.intro b0 (And.intro hq (And.intro hl (And.intro hs hpl)))));have ht : (p.tugs == p.tugs) = true := by simp
  have zgp := hL_ gp;have zgq := hL_ gq;have gp0 : W.cell? ⟨w.heap.size, 0, none⟩ = some (.slice Ac p.chs.length cc) := (cOH gp 0).trans rfl;have gp1 : W.cell? ⟨w.heap.size, 1, none⟩ = some (.slice Ab p.bts.length cb) := (cOH gp 1).trans rfl;have gp2 : W.cell? ⟨w.heap.size, 2, none⟩ = some (.int .i64 p.tugs) := (cOH gp 2).trans rfl;clear kc b0 hp hq hl hs hpl gp gq
  go_enter Tryz.func22, Tryz.ntmps22
  go_upto_region 1 with fail
  rw [← hW];clear hW;go_upto_region 2 with (go_at_call 9; refine HH.out.1.mono ?_; rintro e w1 hnew; obtain ⟨A1, n1, A2, n2, rfl, hp1, hb1⟩ := hnew.use; have H1 := Lib.hid (And.intro hp1 hb1); clear hp1 hb1)
  obtain ⟨X, hX⟩ : ∃ X, X = w1.alloc (.cells (prtV A1 n1 A2 n2 p) 51) := ⟨_, rfl⟩;obtain ⟨xb, hxb⟩ : ∃ b, b = w1.heap.size := ⟨_, rfl⟩;rw [← hX, ← hxb];obtain ⟨-, b0, hq, hl, hs, hpl⟩ := HH.out;obtain ⟨hp1, hb1⟩ := H1.out;obtain ⟨gp, gq⟩ := HG.out;clear gp0 gp1 gp2;have bX : Below w1.heap.size w1 X := by rw [hX]; exact (Below.refl _ _).alloc (Nat.le_refl _) _
  have x0 : X.cell? ⟨xb, 0, none⟩ = some (.slice A1 p.chs.length n1) := by rw [hX, hxb]; exact (cOH (heap_alloc_new w1 _) 0).trans rfl
  have x1 : X.cell? ⟨xb, 1, none⟩ = some (.slice A2 p.bts.length n2) := by rw [hX, hxb]; exact (cOH (heap_alloc_new w1 _) 1).trans rfl
  have zx : xb < X.heap.size := by rw [hX, hxb]; simp
  have BX : Below w.heap.size w X := (b0.trans (hb1.mono b0.size)).trans (bX.mono (by have := b0.size; have := hb1.size; omega));have BW : Below W.heap.size W X := hb1.trans (bX.mono hb1.size);have p2 : X.cell? ⟨w.heap.size, 2, none⟩ = some (.int .i64 p.tugs) := (BW.cell (p := ⟨w.heap.size, 2, none⟩) (hL_ gp)).trans ((cOH gp 2).trans rfl);have q0 : X.cell? ⟨w.heap.size + 1, 0, none⟩ = some (.slice Ac2 p.chs.length cc2) := (BW.cell (p := ⟨w.heap.size + 1, 0, none⟩) (hL_ gq)).trans ((cOH gq 0).trans rfl);have q1 : X.cell? ⟨w.heap.size + 1, 1, none⟩ = some (.slice Ab2 p.bts.length cb2) := (BW.cell (p := ⟨w.heap.size + 1, 1, none⟩) (hL_ gq)).trans ((cOH gq 1).trans rfl);have q2 : X.cell? ⟨w.heap.size + 1, 2, none⟩ = some (.int .i64 p.tugs) := (BW.cell (p := ⟨w.heap.size + 1, 2, none⟩) (hL_ gq)).trans ((cOH gq 2).trans rfl);have zp : w.heap.size + 1 < X.heap.size := by have := hL_ gq; have := BW.size; omega
  have zp' : w.heap.size < X.heap.size := by omega
  obtain ⟨L, hL, hLr, hLp⟩ := hp1.bts.rows;obtain ⟨M, hM, hMr, hMp⟩ := hq.bts.rows;have hLl : L.length = p.bts.length := by rw [← hL]; simp
  have k1 : ∀ wx, Keep [] X wx → Calls Tryz.prog 48 #[.slice A1 p.chs.length n1, .slice Ac2 p.chs.length cc2] wx fun e w' => e = .returned (.bool true) ∧ Below wx.heap.size wx w' := fun wx hk =>
    eqRChn_same A1 n1 p.chs Ac2 cc2 wx (hk.rd ((hp1.chs.below bX).rd bX.size) (by simp)) (hk.rd ((hq.chs.below BX).rd BX.size) (by simp)) (by omega)
  have k2 : ∀ wx, Keep [] X wx → Calls Tryz.prog 49 #[.slice A2 p.bts.length n2, .slice Ab2 p.bts.length cb2, .func (.func 50) #[] #[]] wx fun e w' => e = .returned (.bool true) ∧ Below wx.heap.size wx w' := fun wx hk => by
    rw [← hLl];refine sameBrts_any A2 n2 L Ab2 cb2 M wx ?_ ?_ (by rw [hL, hM]) (fun y hy => ⟨hk.rd (((hLp y hy).below bX).1.rd bX.size) (by simp), hpl _ (by rw [← hL]; exact List.mem_map.2 ⟨_, hy, rfl⟩)⟩) (fun y hy => hk.rd (((hMp y hy).below BX).1.rd BX.size) (by simp)) (by omega)
    · rw [hLl]; exact hk.rd ((hLr.below bX).rd bX.size) (by simp)
    · rw [hLl]; exact hk.rd ((hMr.below BX).rd BX.size) (by simp)
  have HK := Lib.hid (And.intro k1 (And.intro k2 BX));clear hX hxb b0 hq hl hs hpl hp1 hb1 bX BX gp gq BW hL hLr hLp hM hMr hMp hLl k1 k2;go_wp2_with (first | (go_at_call 48; refine (HK.out.1 _ (Keep.refl _ _)).mono ?_; rintro e w2 ⟨rfl, hb2⟩; obtain ⟨hc2, hf2⟩ := bcell hb2; have H2 := Lib.hid hb2; clear hb2) | (go_at_call 49; refine (HK.out.2.1 _ (Keep.of_below H2.out)).mono ?_; rintro e w3 ⟨rfl, hb3⟩; have H3 := Lib.hid hb3; clear hb3))
  go_ret;exact ⟨by simp, (HK.out.2.2.trans (H2.out.mono HK.out.2.2.size)).trans (H3.out.mono (by have := HK.out.2.2.size; have := H2.out.size; omega))⟩
end Go.Proofs.YtalcinepeofmcaaGreat
namespace Go.Proofs.YtalcinepeofmcaaGreat
open Go Go.RowKit Sp
structure Cl2S where
  A1 : Option Addr
  c1 : Nat
  q1 : List Nat
  A2 : Option Addr
  c2 : Nat
  q2 : List Nat
structure Cl2C where
  e1 : TypeId
  z1 : Nat
  n1 : Nat
  xs1 : List Value
  e2 : TypeId
  z2 : Nat
  n2 : Nat
  xs2 : List Value
  ob : Nat
  t : TypeId
structure Cl2W (C : Cl2C) (o1 o2 : Nat) (cur : Cl2S → (Nat → Bool) → Array Value) (W0 : World) (s : Cl2S) (l : Nat → Bool) (w : World) : Prop where
  kp : Keep [C.ob] W0 w
  lt : C.ob < W0.heap.size
  a1 : l o1 = true → OwnS w C.e1 C.z1 s.A1 C.n1 s.c1 C.xs1 s.q1 ∧ ∀ g ∈ s.q1, W0.heap.size ≤ g
  a2 : l o2 = true → OwnS w C.e2 C.z2 s.A2 C.n2 s.c2 C.xs2 s.q2 ∧ ∀ g ∈ s.q2, W0.heap.size ≤ g
  dj : l o1 = true → l o2 = true → ∀ g ∈ s.q1, g ∉ s.q2
  hob : w.heap[C.ob]? = some (.cells (cur s l) C.t (0, 0))
section
variable {C : Cl2C} {o1 o2 : Nat} {cur : Cl2S → (Nat → Bool) → Array Value} {W0 w w' : World} {s : Cl2S} {l : Nat → Bool}
theorem Cl2W.start (h : W0.heap[C.ob]? = some (.cells (cur s fun _ => false) C.t (0, 0))) : Cl2W C o1 o2 cur W0 s (fun _ => false) W0.drew :=
  ⟨(Keep.refl _ _).drew, hL_ h, fun h => absurd h (by simp), fun h => absurd h (by simp), fun h => absurd h (by simp), h⟩
theorem Cl2W.put (H : Cl2W C o1 o2 cur W0 s l w) (i : Nat) (h1 : i ≠ o1) (h2 : i ≠ o2) (hk : Keep [C.ob] w w') (hh : w'.heap[C.ob]? = some (.cells (cur s (upd l i)) C.t (0, 0))) : Cl2W C o1 o2 cur W0 s (upd l i) w' := by
  have hq : ∀ (q : List Nat), (∀ g ∈ q, W0.heap.size ≤ g) → ∀ g ∈ q, g ∉ [C.ob] := fun q hq g hg => by have := hq g hg; have := H.lt; simp; omega
  refine ⟨H.kp.trans hk (fun x hx => .inl hx), H.lt, ?_, ?_, ?_, hh⟩
  · rw [upd_ne h1]; exact fun e => ⟨(H.a1 e).1.keepS hk (hq _ (H.a1 e).2), (H.a1 e).2⟩
  · rw [upd_ne h2]; exact fun e => ⟨(H.a2 e).1.keepS hk (hq _ (H.a2 e).2), (H.a2 e).2⟩
  · rw [upd_ne h1, upd_ne h2]; exact H.dj
theorem Cl2W.other (H : Cl2W C o1 o2 cur W0 s l w) (i : Nat) (h1 : i ≠ o1) (h2 : i ≠ o2) (hc : cur s (upd l i) = cur s l) : Cl2W C o1 o2 cur W0 s (upd l i) w :=
  H.put i h1 h2 (Keep.refl _ _) (by rw [hc]; exact H.hob)
theorem Cl2W.call1 (H : Cl2W C o1 o2 cur W0 s l w) (hn : o1 ≠ o2) {A : Option Addr} {c : Nat} {q : List Nat} (h1 : OwnS w' C.e1 C.z1 A C.n1 c C.xs1 q) (h2 : ∀ g ∈ q, w.heap.size ≤ g) (h3 : Below w.heap.size w w')
    (hc : cur { s with A1 := A, c1 := c, q1 := q } (upd l o1) = cur s l) : Cl2W C o1 o2 cur W0 { s with A1 := A, c1 := c, q1 := q } (upd l o1) w' := by
  have hk : Keep [] w w' := Keep.of_below h3;refine ⟨H.kp.trans hk (by simp), H.lt, fun _ => ⟨h1, fun g hg => Nat.le_trans H.kp.size (h2 g hg)⟩, ?_, ?_, ?_⟩
  · rw [upd_ne hn]; exact fun e => ⟨(H.a2 e).1.keepS hk (by simp), (H.a2 e).2⟩
  · rw [upd_ne hn]; exact fun _ e g hg hg2 => by have := h2 g hg; have := (H.a2 e).1.lt g hg2; omega
  · rw [hc]; exact (hk.block _ (hL_ H.hob) (by simp)).trans H.hob
theorem Cl2W.call2 (H : Cl2W C o1 o2 cur W0 s l w) (hn : o1 ≠ o2) {A : Option Addr} {c : Nat} {q : List Nat} (h1 : OwnS w' C.e2 C.z2 A C.n2 c C.xs2 q) (h2 : ∀ g ∈ q, w.heap.size ≤ g) (h3 : Below w.heap.size w w')
    (hc : cur { s with A2 := A, c2 := c, q2 := q } (upd l o2) = cur s l) : Cl2W C o1 o2 cur W0 { s with A2 := A, c2 := c, q2 := q } (upd l o2) w' := by
  have hk : Keep [] w w' := Keep.of_below h3;refine ⟨H.kp.trans hk (by simp), H.lt, ?_, fun _ => ⟨h1, fun g hg => Nat.le_trans H.kp.size (h2 g hg)⟩, ?_, ?_⟩
  · rw [upd_ne hn.symm]; exact fun e => ⟨(H.a1 e).1.keepS hk (by simp), (H.a1 e).2⟩
  · rw [upd_ne hn.symm]; exact fun e _ g hg hg2 => by have := h2 g hg2; have := (H.a1 e).1.lt g hg; omega
  · rw [hc]; exact (hk.block _ (hL_ H.hob) (by simp)).trans H.hob
end
end Go.Proofs.YtalcinepeofmcaaGreat
namespace Go.Proofs.YtalcinepeofmcaaGreat
open Go Go.RowKit Sp
theorem cloneChn_any (A : Option Addr) (n c : Nat) (xs : List Value) (w : World) (hr : Rd w 3 A n xs) (h1 : ∀ u ∈ xs, u.oneCell' = true) (hc : A = none → n = 0 ∧ c = 0) (hl : n ≤ 100000000) :
    Calls Tryz.prog 33 #[.slice A n c] w (CloneS w 99 3 n xs) := by
  obtain ⟨i0, hi, hz0, hz1, hz2⟩ := info_parts infoChn;have hnil := fun (w : World) (a : Option Addr) (n c : Nat) => Lib.run_eql_slice_nil (P := Tryz.prog) w 22 99 a n c 0 0 Tryz.underlying22;cases A with
  | none =>
    obtain ⟨rfl, rfl⟩ := hc rfl;obtain rfl : xs = [] := List.eq_nil_of_length_eq_zero (by have := hr.1; omega)
    go_enter Tryz.func33, Tryz.ntmps33
    go_wp2_with fail
    go_ret;exact ⟨none, 0, [], rfl, OwnS.nil _ _ _, by simp, Below.refl _ _⟩
  | some ad =>
    have HR := Lib.hid (And.intro hr h1);clear hr hc h1
    go_enter Tryz.func33, Tryz.ntmps33
    go_wp2_with (at_builtin
                 refine wpList_append_M rfl (.tmp 5) (.tmp 6) 22 rfl i0 _ 24 Tryz.underlying22 hi hz0 hz1 hz2 rfl (A := some ⟨w.heap.size, 0, none⟩) (n := 0) (c := 0) (B := some ad) (m := n) (d := c) (xs := []) (fp := [w.heap.size]) (ys := xs) (by simp [Act.eval]) (by simp [Act.eval]) ⟨by simp, .inr ⟨_, _, rfl, rfl, heap_alloc_new w _, by omega, by omega, rfl, by simp⟩⟩ (HR.out.1.below ((Below.refl _ _).alloc (Nat.le_refl _) _)) HR.out.2 (by omega) (by omega) ?_;intro A' c' w' fp' h1 h2 h3;have HQ := Lib.hid (And.intro h1 (And.intro h2 h3));clear h1 h2 h3)
    go_ret;obtain ⟨h1, h2, h3⟩ := HQ.out;refine ⟨A', c', fp', by simp, by simpa using h1, fun g hg => ?_, ((Below.refl w.heap.size w).alloc (Nat.le_refl _) _).trans (h3.below (by simp) (by simp))⟩;rcases h2 g hg with h | h
    · simp at h; omega
    · simp at h; omega
theorem cloneBrt_any (A : Option Addr) (n c : Nat) (xs : List Value) (w : World) (hr : Rd w 2 A n xs) (h1 : ∀ u ∈ xs, u.oneCell' = true) (hc : A = none → n = 0 ∧ c = 0) (hl : n ≤ 100000000) :
    Calls Tryz.prog 34 #[.slice A n c] w (CloneS w 83 2 n xs) := by
  obtain ⟨i0, hi, hz0, hz1, hz2⟩ := info_parts infoBrt;have hnil := fun (w : World) (a : Option Addr) (n c : Nat) => Lib.run_eql_slice_nil (P := Tryz.prog) w 23 83 a n c 0 0 Tryz.underlying23;cases A with
  | none =>
    obtain ⟨rfl, rfl⟩ := hc rfl;obtain rfl : xs = [] := List.eq_nil_of_length_eq_zero (by have := hr.1; omega)
    go_enter Tryz.func34, Tryz.ntmps34
    go_wp2_with fail
    go_ret;exact ⟨none, 0, [], rfl, OwnS.nil _ _ _, by simp, Below.refl _ _⟩
  | some ad =>
    have HR := Lib.hid (And.intro hr h1);clear hr hc h1
    go_enter Tryz.func34, Tryz.ntmps34
    go_wp2_with (at_builtin
                 refine wpList_append_M rfl (.tmp 5) (.tmp 6) 23 rfl i0 _ 32 Tryz.underlying23 hi hz0 hz1 hz2 rfl (A := some ⟨w.heap.size, 0, none⟩) (n := 0) (c := 0) (B := some ad) (m := n) (d := c) (xs := []) (fp := [w.heap.size]) (ys := xs) (by simp [Act.eval]) (by simp [Act.eval]) ⟨by simp, .inr ⟨_, _, rfl, rfl, heap_alloc_new w _, by omega, by omega, rfl, by simp⟩⟩ (HR.out.1.below ((Below.refl _ _).alloc (Nat.le_refl _) _)) HR.out.2 (by omega) (by omega) ?_;intro A' c' w' fp' h1 h2 h3;have HQ := Lib.hid (And.intro h1 (And.intro h2 h3));clear h1 h2 h3)
    go_ret;obtain ⟨h1, h2, h3⟩ := HQ.out;refine ⟨A', c', fp', by simp, by simpa using h1, fun g hg => ?_, ((Below.refl w.heap.size w).alloc (Nat.le_refl _) _).trans (h3.below (by simp) (by simp))⟩;rcases h2 g hg with h | h
    · simp at h; omega
    · simp at h; omega
end Go.Proofs.YtalcinepeofmcaaGreat
