/- Plain law of layer 9: how Planned makes a plan. No program is named here. -/
import Derived.Test.YthmldeningpjbaaPBp3
set_option linter.unusedVariables false
set_option linter.unusedSimpArgs false
namespace Go.Proofs.Ythmldeningpjbaa.Pt
open Sp

def noB (p : Prt) : List Bool := List.replicate p.bts.length false
/-- calls that have been made -/
structure P1 (p : Prt) (hours : Int) (calls : List Cal) (busy : List Bool) (hour : Int) : Prop where
  ca : ∀ c ∈ calls, 0 ≤ c.hour ∧ c.hour < hours ∧ 0 ≤ c.berth ∧ c.berth < p.bts.length ∧ 10 ≤ c.draught ∧ c.draught < 210 ∧ 10 ≤ c.most ∧ c.most < 130 ∧ 0 ≤ c.tugs ∧ c.tugs ≤ 3 ∧ c.hour < hour
  srt : calls.Pairwise (fun a b => a.hour < b.hour)
  out : outsOk calls (noB p)
  bus : busy = outsAft calls (noB p)
  hr : 0 ≤ hour ∧ hour ≤ 100
  tg : ∀ h, tgC h calls ≤ p.tugs
theorem P1.start {p : Prt} (hp : MdP p) {hours h : Int} (hh : 0 ≤ h ∧ h ≤ 100) : P1 p hours [] (noB p) h :=
  ⟨by simp, List.Pairwise.nil, trivial, rfl, hh, fun h => by have := hp.tg; simp only [tgC]; omega⟩
theorem tgC_zero {h : Int} : ∀ {l : List Cal}, (∀ c ∈ l, c.hour ≠ h) → tgC h l = 0
  | [], _ => rfl
  | c :: l, hc => by rw [tgC, if_neg (hc c (by simp)), tgC_zero (fun x hx => hc x (by simp [hx]))]; rfl
theorem P1.len {p : Prt} {hours hour : Int} {calls : List Cal} {busy : List Bool} (H : P1 p hours calls busy hour) : busy.length = p.bts.length := by rw [H.bus, outsAft_length]; simp [noB]
theorem P1.push {p : Prt} {hours hour : Int} {calls : List Cal} {busy : List Bool} (H : P1 p hours calls busy hour) (hp : MdP p) {b : Nat} {x0 x1 x2 x3 : Int} (hlt : hour < hours) (hh : hours ≤ 43) (hb : b < p.bts.length) (h0 : 0 ≤ x0 ∧ x0 < 200) (h1 : 0 ≤ x1 ∧ x1 < 120) (h2 : 0 ≤ x2 ∧ x2 ≤ 3 ∧ x2 ≤ p.tugs) (h3 : 0 ≤ x3 ∧ x3 < 5) :
    P1 p hours (calls ++ [⟨hour, b, busy.getD b false, 10 + x0, 10 + x1, x2⟩]) (busy.set b (!busy.getD b false)) (hour + (1 + x3)) := by
  have hr := H.hr
  refine ⟨fun c hc => ?_, ?_, ?_, ?_, by omega, fun h => ?_⟩
  · rcases List.mem_append.1 hc with hc | hc
    · have := H.ca c hc; omega
    · rw [List.mem_singleton.1 hc]; simp only; omega
  · rw [List.pairwise_append]
    refine ⟨H.srt, List.pairwise_singleton _ _, fun a ha c hc => ?_⟩
    rw [List.mem_singleton.1 hc]
    exact (H.ca a ha).2.2.2.2.2.2.2.2.2.2
  · rw [outsOk_append]
    refine ⟨H.out, ?_, trivial⟩
    rw [← H.bus]; simp
  · rw [outsAft_append, ← H.bus]; simp [outsAft]
  · rw [tgC_snoc]
    simp only
    by_cases e : hour = h
    · rw [if_pos e, tgC_zero (fun c hc => by have := H.ca c hc; omega)]; omega
    · rw [if_neg e]; have := H.tg h; omega
/-- sweeps that have been made -/
structure P2 (p : Prt) (hours : Int) (calls : List Cal) (swps : List Swp) : Prop where
  sw : ∀ s ∈ swps, 0 ≤ s.channel ∧ s.channel < p.chs.length ∧ 1 ≤ s.tugs ∧ s.tugs ≤ 6 ∧ 0 ≤ s.hour ∧ s.hour < hours
  tg : ∀ h, tgC h calls + tgS h swps ≤ p.tugs
theorem P2.start {p : Prt} {hours hour : Int} {calls : List Cal} {busy : List Bool} (H : P1 p hours calls busy hour) : P2 p hours calls [] := ⟨by simp, fun h => by have := H.tg h; simp only [tgS]; omega⟩
theorem P2.push {p : Prt} {hours : Int} {calls : List Cal} {swps : List Swp} (H : P2 p hours calls swps) (hp : MdP p) {h c t : Int} (hh : 0 ≤ h ∧ h < hours) (hc : 0 ≤ c ∧ c < p.chs.length) (ht : 1 ≤ t ∧ t ≤ p.tugs - tgC h calls - tgS h swps) (h0 : 0 ≤ tgC h calls) (h1 : 0 ≤ tgS h swps) : P2 p hours calls (swps ++ [⟨h, c, t⟩]) := by
  have := hp.tg
  refine ⟨fun s hs => ?_, fun k => ?_⟩
  · rcases List.mem_append.1 hs with hs | hs
    · exact H.sw s hs
    · rw [List.mem_singleton.1 hs]; simp only; omega
  · rw [tgS_snoc]
    simp only
    by_cases e : h = k
    · subst e; rw [if_pos rfl]; omega
    · rw [if_neg e]; have := H.tg k; omega
theorem tgC_bd {h : Int} : ∀ {l : List Cal}, (∀ c ∈ l, 0 ≤ c.tugs ∧ c.tugs ≤ 6) → 0 ≤ tgC h l ∧ tgC h l ≤ 6 * l.length
  | [], _ => by simp [tgC]
  | c :: l, hc => by
    have := hc c (by simp)
    have := tgC_bd (h := h) (fun x hx => hc x (List.mem_cons_of_mem c hx))
    rw [tgC, List.length_cons]
    split <;> omega
theorem tgS_bd {h : Int} : ∀ {l : List Swp}, (∀ c ∈ l, 0 ≤ c.tugs ∧ c.tugs ≤ 6) → 0 ≤ tgS h l ∧ tgS h l ≤ 6 * l.length
  | [], _ => by simp [tgS]
  | c :: l, hc => by
    have := hc c (by simp)
    have := tgS_bd (h := h) (fun x hx => hc x (List.mem_cons_of_mem c hx))
    rw [tgS, List.length_cons]
    split <;> omega
theorem tgC_take {h : Int} {l : List Cal} {k : Nat} (hk : k < l.length) : tgC h (l.take (k + 1)) = tgC h (l.take k) + (if l[k].hour = h then l[k].tugs else 0) := by
  rw [List.take_succ_eq_append_getElem hk, tgC_snoc]
theorem tgS_take {h : Int} {l : List Swp} {k : Nat} (hk : k < l.length) : tgS h (l.take (k + 1)) = tgS h (l.take k) + (if l[k].hour = h then l[k].tugs else 0) := by
  rw [List.take_succ_eq_append_getElem hk, tgS_snoc]
theorem MdL.of {p : Prt} {hours hour : Int} {calls : List Cal} {busy : List Bool} {swps : List Swp} (H : P1 p hours calls busy hour) (H2 : P2 p hours calls swps) (hh : 4 ≤ hours ∧ hours ≤ 43) (n1 : calls.length ≤ 8) (n2 : swps.length ≤ 11) : MdL p ⟨hours, calls, swps⟩ :=
  ⟨hh, n1, n2, fun c hc => by have := H.ca c hc; simp only; omega, H.srt, H.out, H2.sw, H2.tg⟩
end Go.Proofs.Ythmldeningpjbaa.Pt
