/- Plain law of layer 13: checks, lines, fields, numbers. No program is named here. -/
import Derived.Lib.ItoaNum
import Derived.Lib.Bytealg
import Derived.WalkKit
import Derived.WalkSpells
import Derived.WalkLawsBesides
import Derived.Lib.Hide
import Derived.Laws.OwnMore
import Derived.Below
import Derived.Maps.AppendAt
import Derived.BigQuiet
import Derived.BigRegion
import Derived.Deep.QuietTactic
import Derived.Deep.RegionLaw
import Derived.Deep.RegionWith
import Derived.Deep.DeepCutAuto
import Derived.Deep.LoopGhost
import Derived.Deep.DeepFit
import Derived.Deep.Draws
import Derived.Deep.AppendLies
import Derived.Deep.CutBlock
import Derived.Deep.RegionLawGrows
set_option linter.unusedVariables false
set_option linter.unusedSimpArgs false
namespace Go.Proofs.YtaokegobilphnaaGreatDoor.Lg
open Go Go.Lib

abbrev By := List UInt8
/-- the check of the first k bytes -/
def sumN (s : By) : Nat → Nat
  | 0 => 0
  | k + 1 => (sumN s k + (k + 1) % 257 * (s.getD k 0).toNat) % 257
def sumB (s : By) : Nat := sumN s s.length
theorem sumN_lt (s : By) : ∀ k, sumN s k < 257
  | 0 => by show 0 < 257; decide
  | k + 1 => Nat.mod_lt _ (by decide)
theorem sumB_lt (s : By) : sumB s < 257 := sumN_lt s _
theorem sumN_congr {s t : By} : ∀ k, (∀ i, i < k → s.getD i 0 = t.getD i 0) → sumN s k = sumN t k
  | 0, _ => rfl
  | k + 1, h => by simp only [sumN]; rw [sumN_congr k fun i hi => h i (by omega), h k (by omega)]
def dig (n : Nat) : UInt8 := UInt8.ofNat (48 + n)
def three (n : Nat) : By := [dig (n / 100), dig (n / 10 % 10), dig (n % 10)]
def whole (s : By) : By := s ++ ([32, 42] ++ (three (sumB s) ++ [10]))
theorem whole_len (s : By) : (whole s).length = s.length + 6 := by simp [whole, three]
theorem dec_small {u : Nat} (h : u < 10) : decDigits u = [dig u] := by rw [decDigits, dif_pos h]; rfl
theorem dec_big {u : Nat} (h : ¬ u < 10) : decDigits u = decDigits (u / 10) ++ [dig (u % 10)] := by rw [decDigits, dif_neg h]; rfl
/-- the last three digits behind two noughts -/
theorem three_dec {n : Nat} (h : n < 1000) : ([48, 48] ++ decDigits n).drop (([48, 48] ++ decDigits n).length - 3) = three n := by
  unfold three
  by_cases h1 : n < 10
  · rw [dec_small h1, show n / 100 = 0 from by omega, show n / 10 % 10 = 0 from by omega, show n % 10 = n from by omega]; rfl
  · rw [dec_big h1]
    by_cases h2 : n / 10 < 10
    · rw [dec_small h2, show n / 100 = 0 from by omega, show n / 10 % 10 = n / 10 from by omega]; rfl
    · rw [dec_big h2, dec_small (by omega), show n / 10 / 10 = n / 100 from by omega]; rfl

/-- a line's content, if the line is not damaged -/
def body (line : By) : By := line.take (line.length - 6)
def inside (line : By) : Bool := decide (line.length ≤ 256) && (!(body line).contains 10 && decide (whole (body line) = line))
theorem inside_iff {line : By} : inside line = true ↔ line.length ≤ 256 ∧ ¬ (10 : UInt8) ∈ body line ∧ whole (body line) = line := by
  simp [inside]
theorem inside_len {line : By} (h : inside line = true) : 6 ≤ line.length := by
  have h1 := (inside_iff.1 h).2.2
  have h2 := whole_len (body line)
  rw [h1] at h2
  omega
/-- as the reference has it -/
def insideR (line : By) : Bool := if line.length < 6 ∨ 256 < line.length ∨ line.count 10 ≠ 1 then false else decide (whole (body line) = line)
theorem dig_ne {n : Nat} (h : n < 10) : dig n ≠ 10 := by
  have : ∀ n : Fin 10, dig n.1 ≠ 10 := by decide
  exact this ⟨n, h⟩
theorem three_feeds {n : Nat} (h : n < 1000) : (three n).count 10 = 0 := by
  rw [List.count_eq_zero]
  simp only [three, List.mem_cons, List.not_mem_nil, or_false, not_or]
  exact ⟨(dig_ne (by omega)).symm, (dig_ne (by omega)).symm, (dig_ne (by omega)).symm⟩
theorem whole_feeds (s : By) : (whole s).count 10 = s.count 10 + 1 := by
  have h1 : ([32, 42] : By).count 10 = 0 := by decide
  have h2 : ([10] : By).count 10 = 1 := by decide
  rw [whole, List.count_append, List.count_append, List.count_append, three_feeds (by have := sumB_lt s; omega), h1, h2]
theorem insideR_eq (line : By) : insideR line = inside line := by
  rw [Bool.eq_iff_iff, inside_iff]
  unfold insideR
  split
  · rename_i h
    constructor
    · intro h1; cases h1
    · rintro ⟨h1, h2, h3⟩
      have h4 := whole_len (body line)
      have h5 := whole_feeds (body line)
      rw [h3] at h4 h5
      have h6 : (body line).count 10 = 0 := List.count_eq_zero.2 h2
      omega
  · rename_i h
    simp only [not_or, Nat.not_lt, Decidable.not_not] at h
    rw [decide_eq_true_eq]
    refine ⟨fun h1 => ⟨by omega, fun hm => ?_, h1⟩, fun h1 => h1.2.2⟩
    have h5 := whole_feeds (body line)
    rw [h1, h.2.2] at h5
    have : (body line).count 10 = 0 := by omega
    exact List.count_eq_zero.1 this hm

/-- the lines of a text -/
def lines : By → List By
  | [] => []
  | b :: s => if b = 10 then [b] :: lines s else match lines s with
    | [] => [[b]]
    | l :: r => (b :: l) :: r
/-- where the first line ends -/
def lineEnd (t : By) : Nat := if indexByte t 10 = -1 then t.length else (indexByte t 10).toNat + 1
theorem lineEnd_cons (b : UInt8) (s : By) : lineEnd (b :: s) = if b = 10 then 1 else lineEnd s + 1 := by
  unfold lineEnd
  by_cases hb : b = 10
  · subst hb; simp [indexByte]
  · have h0 := indexByte_ge s 10
    simp only [indexByte, beq_iff_eq, hb, if_false]
    by_cases h : indexByte s 10 = -1
    · simp [h]
    · rw [if_neg h, if_neg h, if_neg (by omega)]; omega
theorem lineEnd_le (t : By) : lineEnd t ≤ t.length := by
  induction t with
  | nil => simp [lineEnd, indexByte]
  | cons b s ih => rw [lineEnd_cons]; split <;> simp <;> omega
theorem lineEnd_pos {t : By} (h : t ≠ []) : 1 ≤ lineEnd t := by
  cases t with
  | nil => exact absurd rfl h
  | cons b s => rw [lineEnd_cons]; split <;> omega
theorem lines_cut : ∀ {t : By}, t ≠ [] → lines t = t.take (lineEnd t) :: lines (t.drop (lineEnd t))
  | [], h => absurd rfl h
  | b :: s, _ => by
    rw [lineEnd_cons, lines]
    by_cases hb : b = 10
    · rw [if_pos hb, if_pos hb]; simp
    · rw [if_neg hb, if_neg hb]
      by_cases hs : s = []
      · subst hs; simp [lines, lineEnd, indexByte]
      · rw [lines_cut hs]; simp
theorem lines_len {t : By} : ∀ l ∈ lines t, l ≠ [] ∧ l.length ≤ t.length := by
  induction t with
  | nil => simp [lines]
  | cons b s ih =>
    intro l hl
    rw [lines] at hl
    by_cases hb : b = 10
    · rw [if_pos hb] at hl
      rcases List.mem_cons.1 hl with rfl | hl
      · simp
      · have := ih l hl; simp; exact ⟨this.1, by omega⟩
    · rw [if_neg hb] at hl
      cases hq : lines s with
      | nil =>
        rw [hq] at hl
        simp only [List.mem_cons, List.not_mem_nil, or_false] at hl
        subst hl; simp
      | cons x r =>
        rw [hq] at hl ih
        rcases List.mem_cons.1 hl with rfl | hl
        · have := ih x (by simp); simp; omega
        · have := ih l (by simp [hl]); simp; exact ⟨this.1, by omega⟩
theorem lines_few : ∀ (t : By), (lines t).length ≤ t.length
  | [] => by simp [lines]
  | b :: s => by
    have ih := lines_few s
    rw [lines]
    split
    · simp; omega
    · cases hq : lines s with
      | nil => simp
      | cons x r => rw [hq] at ih; simp at ih ⊢; omega
/-- as the reference has them: a line ends at a feed, or with the text -/
theorem lines_at {u v : By} {b : UInt8} (hu : ¬ (10 : UInt8) ∈ u) (hb : b = 10 ∨ v = []) : lines (u ++ b :: v) = (u ++ [b]) :: lines v := by
  induction u with
  | nil =>
    rw [List.nil_append, lines]
    rcases hb with rfl | rfl
    · simp
    · simp only [lines]; split <;> rfl
  | cons x u ih =>
    have hx : x ≠ 10 := fun e => hu (by simp [e])
    rw [List.cons_append, lines, if_neg hx, ih (fun h => hu (by simp [h]))]
    rfl

/-- the fields of a content -/
def fields : By → List By
  | [] => [[]]
  | b :: s => if b = 32 then [] :: fields s else match fields s with
    | [] => [[b]]
    | l :: r => (b :: l) :: r
theorem fields_ne : ∀ (s : By), fields s ≠ []
  | [] => by simp [fields]
  | b :: s => by
    rw [fields]
    split
    · simp
    · cases hq : fields s <;> simp
theorem fields_one {u : By} (hu : ¬ (32 : UInt8) ∈ u) : fields u = [u] := by
  induction u with
  | nil => rfl
  | cons x u ih =>
    have hx : x ≠ 32 := fun e => hu (by simp [e])
    rw [fields, if_neg hx, ih (fun h => hu (by simp [h]))]
theorem fields_cut {u v : By} (hu : ¬ (32 : UInt8) ∈ u) : fields (u ++ 32 :: v) = u :: fields v := by
  induction u with
  | nil => rw [List.nil_append, fields, if_pos rfl]
  | cons x u ih =>
    have hx : x ≠ 32 := fun e => hu (by simp [e])
    rw [List.cons_append, fields, if_neg hx, ih (fun h => hu (by simp [h]))]
theorem fields_free : ∀ (s : By), ∀ f ∈ fields s, ¬ (32 : UInt8) ∈ f
  | [], f, hf => by simp [fields] at hf; subst hf; simp
  | b :: s, f, hf => by
    have ih := fields_free s
    rw [fields] at hf
    split at hf
    · rcases List.mem_cons.1 hf with rfl | hf
      · simp
      · exact ih f hf
    · rename_i hb
      cases hq : fields s with
      | nil => exact absurd hq (fields_ne s)
      | cons x r =>
        rw [hq] at hf ih
        rcases List.mem_cons.1 hf with rfl | hf
        · have := ih x (by simp)
          simp only [List.mem_cons, not_or]
          exact ⟨fun e => hb e.symm, this⟩
        · exact ih f (by simp [hf])
/-- fields, joined again -/
def joinS : List By → By
  | [] => []
  | [x] => x
  | x :: y :: r => x ++ 32 :: joinS (y :: r)
theorem join_cons {x : By} {r : List By} (h : r ≠ []) : joinS (x :: r) = x ++ 32 :: joinS r := by
  cases r with
  | nil => exact absurd rfl h
  | cons y r => rfl
theorem join_fields : ∀ (s : By), joinS (fields s) = s
  | [] => rfl
  | b :: s => by
    have ih := join_fields s
    rw [fields]
    split
    · rename_i hb; rw [join_cons (fields_ne s), ih, hb]; rfl
    · cases hq : fields s with
      | nil => exact absurd hq (fields_ne s)
      | cons x r =>
        rw [hq] at ih
        simp only
        cases r with
        | nil => simp only [joinS] at ih ⊢; rw [ih]
        | cons y r => rw [join_cons (by simp)] at ih ⊢; rw [List.cons_append, ih]
theorem fields_join : ∀ (l : List By), l ≠ [] → (∀ f ∈ l, ¬ (32 : UInt8) ∈ f) → fields (joinS l) = l
  | [], h, _ => absurd rfl h
  | [x], _, h => fields_one (h x (by simp))
  | x :: y :: r, _, h => by
    rw [join_cons (by simp), fields_cut (h x (by simp)), fields_join (y :: r) (by simp) (fun f hf => h f (by simp [hf]))]

/-- a number's field -/
def isDig (b : UInt8) : Bool := decide (48 ≤ b.toNat) && decide (b.toNat ≤ 57)
def valB (s : By) : Nat := s.foldl (fun n b => 10 * n + (b.toNat - 48)) 0
def numB (s : By) : Option Nat := if 1 ≤ s.length ∧ s.length ≤ 7 ∧ s.all isDig = true ∧ decDigits (valB s) = s then some (valB s) else none
theorem valB_snoc (t : By) (b : UInt8) : valB (t ++ [b]) = 10 * valB t + (b.toNat - 48) := by simp [valB]
theorem dec_ne (n : Nat) : decDigits n ≠ [] := by
  by_cases h : n < 10
  · rw [dec_small h]; simp
  · rw [dec_big h]; simp
theorem dec_head : ∀ (n : Nat), 0 < n → (decDigits n).head? ≠ some 48 := by
  intro n
  induction n using Nat.strongRecOn with
  | _ n ih =>
    intro h0
    by_cases h : n < 10
    · rw [dec_small h]
      have : ∀ k : Fin 10, 0 < k.1 → some (dig k.1) ≠ some 48 := by decide
      exact this ⟨n, h⟩ h0
    · rw [dec_big h]
      have := ih (n / 10) (by omega) (by omega)
      cases hq : decDigits (n / 10) with
      | nil => exact absurd hq (dec_ne _)
      | cons x r => rw [hq] at this; simpa using this
theorem dig_of {b : UInt8} (h : isDig b = true) : dig (b.toNat - 48) = b ∧ b.toNat - 48 < 10 := by
  simp only [isDig, Bool.and_eq_true, decide_eq_true_eq] at h
  refine ⟨?_, by omega⟩
  unfold dig
  rw [show 48 + (b.toNat - 48) = b.toNat from by omega]
  simp
theorem isDig_dig {n : Nat} (h : n < 10) : isDig (dig n) = true := by
  have : ∀ n : Fin 10, isDig (dig n.1) = true := by decide
  exact this ⟨n, h⟩
theorem dec_digs : ∀ (n : Nat), (decDigits n).all isDig = true := by
  intro n
  induction n using Nat.strongRecOn with
  | _ n ih =>
    by_cases h : n < 10
    · rw [dec_small h]; simp [isDig_dig h]
    · rw [dec_big h, List.all_append, ih (n / 10) (by omega)]; simp [isDig_dig (show n % 10 < 10 by omega)]
theorem val_dig {n : Nat} (h : n < 10) : (dig n).toNat - 48 = n := by
  have : ∀ n : Fin 10, (dig n.1).toNat - 48 = n.1 := by decide
  exact this ⟨n, h⟩
theorem val_dec : ∀ (n : Nat), valB (decDigits n) = n := by
  intro n
  induction n using Nat.strongRecOn with
  | _ n ih =>
    by_cases h : n < 10
    · rw [dec_small h]; show 10 * 0 + ((dig n).toNat - 48) = n; rw [val_dig h]; omega
    · rw [dec_big h, valB_snoc, ih (n / 10) (by omega), val_dig (by omega)]; omega
/-- a number without a nought ahead is written so -/
theorem dec_val : ∀ (k : Nat) (s : By), s.length = k → s ≠ [] → s.all isDig = true → (s.length = 1 ∨ s.head? ≠ some 48) → decDigits (valB s) = s ∧ (s.head? ≠ some 48 → 0 < valB s)
  | 0, s, hk, h, _, _ => absurd (List.eq_nil_of_length_eq_zero hk) h
  | k + 1, s, hk, h, hd, hz => by
    obtain ⟨t, b, rfl⟩ : ∃ t b, s = t ++ [b] := ⟨_, _, (List.dropLast_concat_getLast h).symm⟩
    rw [List.all_append, Bool.and_eq_true] at hd
    have hb : isDig b = true := by simpa using hd.2
    obtain ⟨e1, e2⟩ := dig_of hb
    rw [valB_snoc]
    by_cases ht : t = []
    · subst ht
      rw [show valB [] = 0 from rfl, Nat.mul_zero, Nat.zero_add, dec_small e2, e1]
      refine ⟨rfl, fun hh => ?_⟩
      have : b.toNat ≠ 48 := fun e => hh (by simp; exact UInt8.toNat_inj.1 (by simpa using e))
      simp only [isDig, Bool.and_eq_true, decide_eq_true_eq] at hb
      omega
    · have hl : t.length = k := by simp at hk; omega
      have hth : (t ++ [b]).head? = t.head? := by
        cases t with
        | nil => exact absurd rfl ht
        | cons x r => rfl
      have hz' : t.head? ≠ some 48 := by
        rw [hth] at hz
        rcases hz with hz | hz
        · simp at hz; exact absurd hz ht
        · exact hz
      obtain ⟨h1, h2⟩ := dec_val k t hl ht hd.1 (.inr hz')
      have h3 := h2 hz'
      rw [dec_big (by omega), show (10 * valB t + (b.toNat - 48)) / 10 = valB t from by omega, show (10 * valB t + (b.toNat - 48)) % 10 = b.toNat - 48 from by omega, h1, e1]
      exact ⟨rfl, fun _ => by omega⟩
/-- as the program asks -/
theorem num_iff {s : By} (h : s ≠ []) (hd : s.all isDig = true) : decDigits (valB s) = s ↔ ¬ (1 < s.length ∧ s.head? = some 48) := by
  constructor
  · rintro h1 ⟨h2, h3⟩
    by_cases h0 : 0 < valB s
    · have := dec_head _ h0
      rw [h1] at this; exact this h3
    · rw [show valB s = 0 from by omega, dec_small (by decide)] at h1
      rw [← h1] at h2; simp at h2
  · intro hn
    refine (dec_val s.length s rfl h hd ?_).1
    by_cases h2 : s.length = 1
    · exact .inl h2
    · refine .inr fun h3 => hn ⟨?_, h3⟩
      have : s.length ≠ 0 := fun e => h (List.eq_nil_of_length_eq_zero e)
      omega
theorem valB_lt : ∀ (k : Nat) (s : By), s.length = k → s.all isDig = true → valB s < 10 ^ k
  | 0, s, hk, _ => by rw [List.eq_nil_of_length_eq_zero hk]; decide
  | k + 1, s, hk, hd => by
    have h : s ≠ [] := fun e => by rw [e] at hk; cases hk
    obtain ⟨t, b, rfl⟩ : ∃ t b, s = t ++ [b] := ⟨_, _, (List.dropLast_concat_getLast h).symm⟩
    rw [List.all_append, Bool.and_eq_true] at hd
    have hb : isDig b = true := by simpa using hd.2
    have e2 := (dig_of hb).2
    have ih := valB_lt k t (by simp at hk; omega) hd.1
    rw [valB_snoc, Nat.pow_succ]
    omega
theorem num_dec {n : Nat} (h : n < 10000000) : numB (decDigits n) = some n := by
  have hl : (decDigits n).length ≤ 7 := by
    by_cases h1 : (decDigits n).length ≤ 7
    · exact h1
    · exfalso
      have key : ∀ (k n : Nat), n < 10 ^ (k + 1) → (decDigits n).length ≤ k + 1 := by
        intro k
        induction k with
        | zero => intro n hn; rw [dec_small (by simpa using hn)]; simp
        | succ k ih =>
          intro n hn
          by_cases h : n < 10
          · rw [dec_small h]; simp
          · rw [dec_big h]
            have := ih (n / 10) (by rw [Nat.pow_succ] at hn; omega)
            simp; omega
      exact h1 (key 6 n (by simpa using h))
  unfold numB
  rw [val_dec, if_pos ⟨List.length_pos_iff.2 (dec_ne n), hl, dec_digs n, rfl⟩]
end Go.Proofs.YtaokegobilphnaaGreatDoor.Lg
/- Plain law of layer 13: notes, entries. No program is named here. -/
namespace Go.Proofs.YtaokegobilphnaaGreatDoor.Lg
open Go Go.Lib

def hexd (n : Nat) : UInt8 := if n < 10 then UInt8.ofNat (48 + n) else UInt8.ofNat (87 + n)
/-- how a byte of a note is written -/
def one (b : UInt8) : By := if b = 10 then [92, 110] else if b = 34 then [92, 34] else if b = 42 then [92, 42] else if b = 92 then [92, 92] else if b.toNat < 32 ∨ 126 < b.toNat then [92, 120, hexd (b.toNat / 16), hexd (b.toNat % 16)] else [b]
def quo (n : By) : By := 34 :: (n.flatMap one ++ [34])
/-- the number of a digit; a large one if it is none -/
def hexv (b : UInt8) : Nat := if 48 ≤ b.toNat ∧ b.toNat ≤ 57 then b.toNat - 48 else if 97 ≤ b.toNat ∧ b.toNat ≤ 102 then b.toNat - 87 else 1024
theorem hexv_hexd {n : Nat} (h : n < 16) : hexv (hexd n) = n := by
  have : ∀ n : Fin 16, hexv (hexd n.1) = n.1 := by decide
  exact this ⟨n, h⟩
/-- takes the first byte's writing off -/
def dcd : By → Option (UInt8 × By)
  | [] => none
  | 92 :: 110 :: t => some (10, t)
  | 92 :: 120 :: h :: l :: t => some (UInt8.ofNat (16 * hexv h + hexv l), t)
  | 92 :: x :: t => some (x, t)
  | b :: t => some (b, t)
theorem dcd_one (b : UInt8) (t : By) : dcd (one b ++ t) = some (b, t) := by
  unfold one
  split
  · rename_i h; subst h; rfl
  · split
    · rename_i h; subst h; rfl
    · split
      · rename_i h; subst h; rfl
      · split
        · rename_i h; subst h; rfl
        · split
          · have h1 : b.toNat < 256 := b.toNat_lt
            show some (UInt8.ofNat (16 * hexv (hexd (b.toNat / 16)) + hexv (hexd (b.toNat % 16))), t) = _
            rw [hexv_hexd (by omega), hexv_hexd (by omega), show 16 * (b.toNat / 16) + b.toNat % 16 = b.toNat from by omega]
            simp
          · rename_i h10 h34 h42 h92 hb
            show dcd (b :: t) = some (b, t)
            unfold dcd
            split
            · rename_i h; cases h
            · rename_i h; injection h with h; exact absurd h h92
            · rename_i h; injection h with h; exact absurd h h92
            · rename_i h; injection h with h; exact absurd h h92
            · rename_i h; injection h with h1 h2; rw [h1, h2]
theorem one_inj {b c : UInt8} {t u : By} (h : one b ++ t = one c ++ u) : b = c ∧ t = u := by
  have h1 := dcd_one b t
  rw [h, dcd_one] at h1
  injection h1 with h1
  injection h1 with h1 h2
  exact ⟨h1.symm, h2.symm⟩
theorem one_len (b : UInt8) : 1 ≤ (one b).length ∧ (one b).length ≤ 4 := by
  unfold one
  repeat' split
  all_goals simp
theorem one_ne (b : UInt8) : one b ≠ [] := fun e => by have := (one_len b).1; rw [e] at this; simp at this
theorem ones_inj : ∀ {n m : By}, n.flatMap one = m.flatMap one → n = m
  | [], [], _ => rfl
  | [], c :: m, h => by
    rw [List.flatMap_nil, List.flatMap_cons] at h
    exact absurd (List.append_eq_nil_iff.1 h.symm).1 (one_ne c)
  | b :: n, [], h => by
    rw [List.flatMap_nil, List.flatMap_cons] at h
    exact absurd (List.append_eq_nil_iff.1 h).1 (one_ne b)
  | b :: n, c :: m, h => by
    rw [List.flatMap_cons, List.flatMap_cons] at h
    obtain ⟨rfl, h2⟩ := one_inj h
    rw [ones_inj h2]
theorem quo_inj {n m : By} (h : quo n = quo m) : n = m := by
  unfold quo at h
  injection h with _ h
  exact ones_inj (List.append_cancel_right h)
theorem quo_len (n : By) : (quo n).length = (n.flatMap one).length + 2 := by simp [quo]
theorem ones_len : ∀ (n : By), n.length ≤ (n.flatMap one).length ∧ (n.flatMap one).length ≤ 4 * n.length
  | [] => by simp
  | b :: n => by
    have h1 := one_len b
    have h2 := ones_len n
    rw [List.flatMap_cons, List.length_append, List.length_cons]
    omega
/-- the note that is quoted so -/
noncomputable def unq (s : By) : Option By := @dite (Option By) (∃ n : By, quo n = s ∧ n.length ≤ 40) (Classical.propDecidable _) (fun h => some h.choose) (fun _ => none)
theorem unq_some {s n : By} : unq s = some n ↔ quo n = s ∧ n.length ≤ 40 := by
  unfold unq
  constructor
  · intro h
    split at h
    · rename_i hx
      injection h with h
      rw [← h]; exact hx.choose_spec
    · cases h
  · intro h
    have hx : ∃ n : By, quo n = s ∧ n.length ≤ 40 := ⟨n, h⟩
    rw [dif_pos hx]
    rw [quo_inj (hx.choose_spec.1.trans h.1.symm)]
theorem unq_none {s : By} : unq s = none ↔ ∀ n, quo n = s → ¬ n.length ≤ 40 := by
  constructor
  · intro h n h1 h2
    have := unq_some.2 ⟨h1, h2⟩
    rw [h] at this; cases this
  · intro h
    cases hq : unq s with
    | none => rfl
    | some n => have := unq_some.1 hq; exact absurd this.2 (h n this.1)

/-- an entry -/
structure Ent where
  minute : Int
  ship : Int
  verb : By
  args : List Int
  note : By
instance : Inhabited Ent := ⟨⟨0, 0, [], [], []⟩⟩
def isLow (b : UInt8) : Bool := decide (97 ≤ b.toNat) && decide (b.toNat ≤ 122)
def inB (n lo hi : Int) : Bool := decide (lo ≤ n) && decide (n ≤ hi)
def okE (x : Ent) : Bool := inB x.minute 0 1000000 && (inB x.ship 0 40 && ((inB x.verb.length 1 12 && x.verb.all isLow) && (decide (x.args.length ≤ 4) && (decide (x.note.length ≤ 40) && x.args.all fun n => inB n 0 1000000))))
structure OkE (x : Ent) : Prop where
  m : 0 ≤ x.minute ∧ x.minute ≤ 1000000
  s : 0 ≤ x.ship ∧ x.ship ≤ 40
  v : 1 ≤ x.verb.length ∧ x.verb.length ≤ 12
  va : ∀ b ∈ x.verb, 97 ≤ b.toNat ∧ b.toNat ≤ 122
  a : x.args.length ≤ 4
  aa : ∀ n ∈ x.args, 0 ≤ n ∧ n ≤ 1000000
  n : x.note.length ≤ 40
theorem okE_iff {x : Ent} : okE x = true ↔ OkE x := by
  simp only [okE, inB, isLow, Bool.and_eq_true, decide_eq_true_eq, List.all_eq_true]
  constructor
  · rintro ⟨h1, h2, ⟨h3, h4⟩, h5, h6, h7⟩
    exact ⟨h1, h2, by omega, h4, h5, h7, h6⟩
  · rintro ⟨h1, h2, h3, h4, h5, h6, h7⟩
    exact ⟨h1, h2, ⟨by omega, h4⟩, h5, h7, h6⟩
def decI (n : Int) : By := decDigits n.toNat
/-- the fields ahead of the note -/
def headF (x : Ent) : List By := decI x.minute :: decI x.ship :: x.verb :: x.args.map decI
def told (x : Ent) : By := joinS (headF x) ++ if x.note = [] then [] else 32 :: quo x.note
theorem dec_chars {n : Nat} {b : UInt8} (h : b ∈ decDigits n) : 48 ≤ b.toNat ∧ b.toNat ≤ 57 := by
  have := List.all_eq_true.1 (dec_digs n) b h
  simpa [isDig] using this
theorem headF_chars {x : Ent} (h : OkE x) : ∀ f ∈ headF x, ∀ b ∈ f, 48 ≤ b.toNat := by
  intro f hf b hb
  simp only [headF, List.mem_cons, List.mem_map] at hf
  rcases hf with rfl | rfl | rfl | ⟨n, _, rfl⟩
  · exact (dec_chars hb).1
  · exact (dec_chars hb).1
  · have := h.va b hb; omega
  · exact (dec_chars hb).1
theorem headF_free {x : Ent} (h : OkE x) : ∀ f ∈ headF x, ¬ (32 : UInt8) ∈ f := fun f hf hm => by
  have := headF_chars h f hf _ hm
  exact absurd this (by decide)
theorem join_chars : ∀ (l : List By) {b : UInt8}, b ∈ joinS l → b = 32 ∨ ∃ f ∈ l, b ∈ f
  | [], b, h => by cases h
  | [x], b, h => .inr ⟨x, by simp, h⟩
  | x :: y :: r, b, h => by
    rw [join_cons (by simp)] at h
    rcases List.mem_append.1 h with h | h
    · exact .inr ⟨x, by simp, h⟩
    · rcases List.mem_cons.1 h with rfl | h
      · exact .inl rfl
      · rcases join_chars (y :: r) h with h | ⟨f, hf, h⟩
        · exact .inl h
        · exact .inr ⟨f, by simp at hf ⊢; exact .inr hf, h⟩
theorem head_noq {x : Ent} (h : OkE x) : ¬ (34 : UInt8) ∈ joinS (headF x) := fun hm => by
  rcases join_chars _ hm with e | ⟨f, hf, hb⟩
  · cases e
  · have := headF_chars h f hf _ hb
    exact absurd this (by decide)
theorem decI_inj {a b : Int} (ha : 0 ≤ a) (hb : 0 ≤ b) (h : decI a = decI b) : a = b := by
  have h1 := congrArg valB h
  unfold decI at h1
  rw [val_dec, val_dec] at h1
  omega
theorem headF_inj {x y : Ent} (hx : OkE x) (hy : OkE y) (h : headF x = headF y) : x.minute = y.minute ∧ x.ship = y.ship ∧ x.verb = y.verb ∧ x.args = y.args := by
  unfold headF at h
  injection h with h1 h
  injection h with h2 h
  injection h with h3 h4
  refine ⟨decI_inj hx.m.1 hy.m.1 h1, decI_inj hx.s.1 hy.s.1 h2, h3, ?_⟩
  have key : ∀ (l m : List Int), (∀ n ∈ l, 0 ≤ n) → (∀ n ∈ m, 0 ≤ n) → l.map decI = m.map decI → l = m := by
    intro l
    induction l with
    | nil => intro m _ _ e; cases m with
      | nil => rfl
      | cons a m => cases e
    | cons a l ih =>
      intro m h1 h2 e
      cases m with
      | nil => cases e
      | cons b m =>
        injection e with e1 e2
        rw [decI_inj (h1 a (by simp)) (h2 b (by simp)) e1, ih m (fun n hn => h1 n (by simp [hn])) (fun n hn => h2 n (by simp [hn])) e2]
  exact key _ _ (fun n hn => (hx.aa n hn).1) (fun n hn => (hy.aa n hn).1) h4
/-- a text without a quote ahead of the first quote -/
theorem quote_cut {a b u v : By} (ha : ¬ (34 : UInt8) ∈ a) (hb : ¬ (34 : UInt8) ∈ b) (h : a ++ 34 :: u = b ++ 34 :: v) : a = b ∧ u = v := by
  induction a generalizing b with
  | nil =>
    cases b with
    | nil => injection h with _ h; exact ⟨rfl, h⟩
    | cons c b => injection h with h1 _; exact absurd (show (34 : UInt8) ∈ c :: b by simp [← h1]) hb
  | cons x a ih =>
    cases b with
    | nil => injection h with h1 _; exact absurd (show (34 : UInt8) ∈ x :: a by simp [h1]) ha
    | cons c b =>
      injection h with h1 h2
      obtain ⟨h3, h4⟩ := ih (fun hm => ha (by simp [hm])) (fun hm => hb (by simp [hm])) h2
      exact ⟨by rw [h1, h3], h4⟩
theorem told_note {x : Ent} (h : x.note ≠ []) : told x = (joinS (headF x) ++ [32]) ++ 34 :: (x.note.flatMap one ++ [34]) := by
  unfold told quo
  rw [if_neg h]; simp
theorem told_inj {x y : Ent} (hx : OkE x) (hy : OkE y) (h : told x = told y) : x = y := by
  have qx := head_noq hx
  have qy := head_noq hy
  have hf : headF x = headF y ∧ x.note = y.note := by
    by_cases nx : x.note = []
    · by_cases ny : y.note = []
      · unfold told at h
        rw [if_pos nx, if_pos ny, List.append_nil, List.append_nil] at h
        refine ⟨?_, by rw [nx, ny]⟩
        rw [← fields_join (headF x) (by simp [headF]) (headF_free hx), h, fields_join (headF y) (by simp [headF]) (headF_free hy)]
      · exfalso
        rw [told_note ny] at h
        unfold told at h
        rw [if_pos nx, List.append_nil] at h
        exact qx (by rw [h]; simp)
    · by_cases ny : y.note = []
      · exfalso
        rw [told_note nx] at h
        unfold told at h
        rw [if_pos ny, List.append_nil] at h
        exact qy (by rw [← h]; simp)
      · rw [told_note nx, told_note ny] at h
        obtain ⟨h1, h2⟩ := quote_cut (by simp [qx]) (by simp [qy]) h
        have h3 := List.append_cancel_right h1
        have h4 := ones_inj (List.append_cancel_right h2)
        refine ⟨?_, h4⟩
        rw [← fields_join (headF x) (by simp [headF]) (headF_free hx), h3, fields_join (headF y) (by simp [headF]) (headF_free hy)]
  obtain ⟨h1, h2, h3, h4⟩ := headF_inj hx hy hf.1
  obtain ⟨a, b, c, d, e⟩ := x
  obtain ⟨a', b', c', d', e'⟩ := y
  simp only at h1 h2 h3 h4
  have h5 := hf.2
  simp only at h5
  rw [h1, h2, h3, h4, h5]
/-- the entry of a content -/
noncomputable def entB (s : By) : Option Ent := @dite (Option Ent) (∃ x : Ent, told x = s ∧ OkE x) (Classical.propDecidable _) (fun h => some h.choose) (fun _ => none)
theorem entB_some {s : By} {x : Ent} : entB s = some x ↔ told x = s ∧ OkE x := by
  unfold entB
  constructor
  · intro h
    split at h
    · rename_i hx
      injection h with h
      rw [← h]; exact hx.choose_spec
    · cases h
  · intro h
    have hx : ∃ x : Ent, told x = s ∧ OkE x := ⟨x, h⟩
    rw [dif_pos hx, told_inj hx.choose_spec.2 h.2 (hx.choose_spec.1.trans h.1.symm)]
/-- how a content is parted: the fields, and the note, if all is as it must be -/
theorem ent_plain {s : By} (hq : ¬ (34 : UInt8) ∈ s) {x : Ent} : (told x = s ∧ OkE x) ↔ (OkE x ∧ x.note = [] ∧ fields s = headF x) := by
  constructor
  · rintro ⟨h1, h2⟩
    have hn : x.note = [] := by
      by_cases hn : x.note = []
      · exact hn
      · exfalso; rw [told_note hn] at h1; exact hq (by rw [← h1]; simp)
    refine ⟨h2, hn, ?_⟩
    rw [← h1]
    unfold told
    rw [if_pos hn, List.append_nil, fields_join (headF x) (by simp [headF]) (headF_free h2)]
  · rintro ⟨h1, h2, h3⟩
    refine ⟨?_, h1⟩
    unfold told
    rw [if_pos h2, List.append_nil, ← h3, join_fields]
end Go.Proofs.YtaokegobilphnaaGreatDoor.Lg
/- Plain law of layer 13: what is read of a text, and recovered. No program is named here. -/
namespace Go.Proofs.YtaokegobilphnaaGreatDoor.Lg
open Go Go.Lib

/-- the number that a first line says -/
def cntB (s : By) : Option Nat := match fields s with
  | [w, r] => if w = [76, 79, 71] then numB r else none
  | _ => none
/-- the error of a line, by its index -/
def lineS (l : List By) (i : Nat) : Int := if l.length ≤ i then 3 else if inside (l.getD i []) = true then 0 else 7
/-- the line and the error of what is behind the last line that is due -/
def closeS (l : List By) (i : Nat) : Nat × Int := if l.length ≤ i then (0, 0) else (i + 1, if lineS l i ≠ 0 then lineS l i else 3)
/-- k entries are read, from line i on -/
noncomputable def rdE (l : List By) : Nat → Nat → List Ent → List Ent × Nat × Int
  | 0, i, out => if (closeS l i).2 = 0 then (out, 0, 0) else ([], closeS l i)
  | k + 1, i, out => if lineS l i ≠ 0 then ([], i + 1, lineS l i) else match entB (body (l.getD i [])) with
    | none => ([], i + 1, 3)
    | some x => if out ≠ [] ∧ x.minute < (out.getLast?.getD default).minute then ([], i + 1, 11) else rdE l k (i + 1) (out ++ [x])
noncomputable def rdLog (t : By) : List Ent × Nat × Int :=
  if 131072 < t.length then ([], 0, 2) else if lineS (lines t) 0 ≠ 0 then ([], 1, lineS (lines t) 0) else match cntB (body ((lines t).getD 0 [])) with
    | none => ([], 1, 3)
    | some n => if 500 < n then ([], 1, 2) else rdE (lines t) n 1 []
/-- what is recovered of the first k lines -/
noncomputable def rcN (l : List By) : Nat → List Ent × List Int
  | 0 => ([], [])
  | k + 1 => if k = 0 then (if inside (l.getD 0 []) = true ∧ (cntB (body (l.getD 0 []))).isSome = true then ([], []) else ([], [1]))
    else match (if inside (l.getD k []) = true then entB (body (l.getD k [])) else none) with
      | some x => ((rcN l k).1 ++ [x], (rcN l k).2)
      | none => ((rcN l k).1, (rcN l k).2 ++ [(k : Int) + 1])
/-- the numbers of the damaged ones of the first k lines -/
def dmN (l : List By) : Nat → List Int
  | 0 => []
  | k + 1 => if inside (l.getD k []) = true then dmN l k else dmN l k ++ [(k : Int) + 1]
theorem dmN_len (l : List By) : ∀ k, (dmN l k).length ≤ k
  | 0 => by simp [dmN]
  | k + 1 => by
    have := dmN_len l k
    rw [dmN]; split <;> simp <;> omega
end Go.Proofs.YtaokegobilphnaaGreatDoor.Lg
/- Memory words shared by all walks of this seat: what a slice reads as, which blocks are kept. No program is named here. -/
namespace Go.Proofs.YtaokegobilphnaaGreatDoor
open Go Go.RowKit



/-- The slice (A, n) reads as the cells xs, size cells an element. -/
def Rd (w : World) (size : Nat) (A : Option Addr) (n : Nat) (xs : List Value) : Prop :=
  xs.length = n * size ∧ (0 < n → ∃ b off, A = some ⟨b, off, none⟩ ∧ b < w.heap.size ∧ ∀ j u, xs[j]? = some u → w.cell? ⟨b, off + j, none⟩ = some u)

section
variable {w w' : World} {size n : Nat} {A : Option Addr} {xs : List Value}
theorem Rd.nil (w : World) (size : Nat) (A : Option Addr) : Rd w size A 0 [] := ⟨by simp, fun h => absurd h (by omega)⟩
theorem Rd.below (h : Rd w size A n xs) (hb : Below w.heap.size w w') : Rd w' size A n xs := by
  refine ⟨h.1, fun hn => ?_⟩
  obtain ⟨b, off, e, hl, hc⟩ := h.2 hn
  exact ⟨b, off, e, Nat.lt_of_lt_of_le hl hb.size, fun j u hu => (hb.cell (p := ⟨b, off + j, none⟩) hl).trans (hc j u hu)⟩
theorem Rd.below2 {w0 : World} (h : Rd w0 size A n xs) (hb : Below w0.heap.size w0 w') : Rd w' size A n xs := h.below hb
theorem Rd.one (h : Rd w 1 A n xs) {k : Nat} (hk : k < n) : ∃ b off u, A = some ⟨b, off, none⟩ ∧ b < w.heap.size ∧ xs[k]? = some u ∧ w.cell? ⟨b, off + k, none⟩ = some u := by
  obtain ⟨b, off, e, hl, hc⟩ := h.2 (by omega)
  have hx : k < xs.length := by have := h.1; omega
  exact ⟨b, off, xs[k], e, hl, List.getElem?_eq_getElem hx, hc k _ (List.getElem?_eq_getElem hx)⟩
theorem Rd.of_own {base : Nat} {e : TypeId} {c : Nat} (h : w.ownsRow base e size (.slice A n c) n xs) : Rd w size A n xs := by
  refine ⟨h.1, fun hn => ?_⟩
  obtain ⟨g, cap, hv, _, hlt⟩ := h.form hn
  have hA : A = some ⟨g, 0, none⟩ := by injection hv
  subst hA
  refine ⟨g, 0, rfl, hlt, fun j u hu => ?_⟩
  have := h.cells (g := g) rfl j u hu
  rwa [Addr.add_lit] at this
end

theorem bcell {w w' : World} (hb : Below w.heap.size w w') : (∀ b o, b < w.heap.size → w'.cell? ⟨b, o, none⟩ = w.cell? ⟨b, o, none⟩) ∧ (∀ b o, b < w.heap.size → w'.frozen? ⟨b, o, none⟩ = w.frozen? ⟨b, o, none⟩) :=
  ⟨fun b o h => hb.cell (p := ⟨b, o, none⟩) h, fun b o h => hb.frozen (p := ⟨b, o, none⟩) h⟩

/-- w' is w but for the blocks of S, and new blocks. -/
structure Keep (S : List Nat) (w w' : World) : Prop where
  os : w'.os = w.os
  tape : w'.tape = w.tape
  output : w'.output = w.output
  size : w.heap.size ≤ w'.heap.size
  block : ∀ k, k < w.heap.size → k ∉ S → w'.heap[k]? = w.heap[k]?

section
variable {S S' : List Nat} {w w' w'' : World}
theorem Keep.refl (S : List Nat) (w : World) : Keep S w w := ⟨rfl, rfl, rfl, Nat.le_refl _, fun _ _ _ => rfl⟩
theorem Keep.trans (h : Keep S w w') (k : Keep S' w' w'') (hs : ∀ x ∈ S', x ∈ S ∨ w.heap.size ≤ x) : Keep S w w'' :=
  ⟨k.os.trans h.os, k.tape.trans h.tape, k.output.trans h.output, Nat.le_trans h.size k.size, fun i hi hn =>
    (k.block i (Nat.lt_of_lt_of_le hi h.size) (fun hm => by rcases hs i hm with h1 | h1; exact hn h1; omega)).trans (h.block i hi hn)⟩
theorem Keep.mono (h : Keep S w w') (hs : ∀ x ∈ S, x ∈ S' ∨ w.heap.size ≤ x) : Keep S' w w' :=
  ⟨h.os, h.tape, h.output, h.size, fun i hi hn => h.block i hi (fun hm => by rcases hs i hm with h1 | h1; exact hn h1; omega)⟩
theorem Keep.below (h : Keep S w w') {B : Nat} (hB : B ≤ w.heap.size) (hs : ∀ x ∈ S, B ≤ x) : Below B w w' :=
  ⟨h.os, h.tape, h.output, h.size, fun i hi => h.block i (by omega) (fun hm => by have := hs i hm; omega)⟩
theorem Keep.of_below (h : Below w.heap.size w w') : Keep S w w' := ⟨h.os, h.tape, h.output, h.size, fun i hi _ => h.block i hi⟩
theorem Keep.drew (h : Keep S w w') : Keep S w w'.drew := ⟨h.os, h.tape, h.output, h.size, h.block⟩
theorem Keep.drewN (h : Keep S w w') (n : Nat) : Keep S w (w'.drewN n) := ⟨h.os, h.tape, h.output, h.size, h.block⟩
theorem Keep.alloc (h : Keep S w w') (o : Obj) : Keep S w (w'.alloc o) :=
  ⟨h.os, h.tape, h.output, by have := h.size; simp; omega, fun i hi hn => by rw [Below.heap_alloc _ _ _ (by have := h.size; omega)]; exact h.block i hi hn⟩
theorem Keep.setCell (h : Keep S w w') {p : Addr} (hp : p.block ∈ S ∨ w.heap.size ≤ p.block) (u : Value) : Keep S w (w'.setCell p u) :=
  ⟨h.os, h.tape, h.output, by have := h.size; simpa [World.setCell] using this, fun i hi hn => by
    rw [Below.heap_setCell _ _ _ _ (fun e => by subst e; rcases hp with h1 | h1; exact hn h1; omega)]; exact h.block i hi hn⟩
theorem Keep.grown (h : Keep S w w') {row : Option Nat} (hg : w'.grownBy w'' row) (hr : ∀ g, row = some g → g ∈ S ∨ w.heap.size ≤ g) : Keep S w w'' :=
  ⟨hg.os.trans h.os, hg.tape.trans h.tape, hg.output.trans h.output, Nat.le_trans h.size hg.size, fun i hi hn => by
    rw [hg.block i (by have := h.size; omega) (fun e => by rcases hr i e.symm with h1 | h1; exact hn h1; omega)]; exact h.block i hi hn⟩
end

theorem heap_set {w : World} {g : Nat} {cs : Array Value} {t : TypeId} {fr : Nat × Nat} (h : w.heap[g]? = some (.cells cs t fr)) (i : Nat) (u : Value) :
    (w.setCell ⟨g, i, none⟩ u).heap[g]? = some (.cells (cs.setIfInBounds i u) t fr) := by
  simp [World.setCell, Array.getElem?_modify, h]
theorem heap_set_ne {w : World} {g : Nat} {o : Option Obj} (h : w.heap[g]? = o) {p : Addr} (hp : g ≠ p.block) (u : Value) : (w.setCell p u).heap[g]? = o :=
  (Below.heap_setCell w p u g hp).trans h
theorem heap_lt {w : World} {g : Nat} {o : Obj} (h : w.heap[g]? = some o) : g < w.heap.size := (Array.getElem?_eq_some_iff.1 h).1
theorem heap_alloc' {w : World} {g : Nat} {o : Obj} (h : w.heap[g]? = some o) (o' : Obj) : (w.alloc o').heap[g]? = some o := (Below.heap_alloc w o' g (heap_lt h)).trans h
theorem frozen_of_heap {w : World} {g : Nat} {cs : Array Value} {t : TypeId} (h : w.heap[g]? = some (.cells cs t (0, 0))) (i : Nat) : w.frozen? ⟨g, i, none⟩ = false := by simp [World.frozen?, h]
theorem cell_of_heap {w : World} {g : Nat} {cs : Array Value} {t : TypeId} {fr : Nat × Nat} (h : w.heap[g]? = some (.cells cs t fr)) (i : Nat) : w.cell? ⟨g, i, none⟩ = cs[i]? := cell_of_row w g i cs t fr h

/-- A slice value (A, n, c) of one-cell elements, nil or in a block of its own (perhaps not from the block's head): fp: its block. It may be appended to in place. -/
def OwnA (w : World) (e : TypeId) (A : Option Addr) (n c : Nat) (xs : List Value) (fp : List Nat) : Prop :=
  xs.length = n ∧ ((A = none ∧ n = 0 ∧ c = 0 ∧ fp = []) ∨
    ∃ g off cur, A = some ⟨g, off, none⟩ ∧ fp = [g] ∧ w.heap[g]? = some (.cells cur e (0, 0)) ∧ n ≤ c ∧ c ≤ 9223372036854775807 ∧ off + c = cur.size ∧ ∀ j u, xs[j]? = some u → cur[off + j]? = some u)

section
variable {w w' : World} {e : TypeId} {A : Option Addr} {n c : Nat} {xs : List Value} {fp : List Nat}
theorem OwnA.lt (h : OwnA w e A n c xs fp) : ∀ g ∈ fp, g < w.heap.size := by
  intro g hg
  rcases h.2 with ⟨_, _, _, rfl⟩ | ⟨g', off, cur, rfl, rfl, hh, _⟩
  · simp at hg
  · obtain rfl : g = g' := by simpa using hg
    exact heap_lt hh
theorem OwnA.ge (h : OwnA w e A n c xs fp) : n ≤ c := by
  rcases h.2 with ⟨_, rfl, rfl, _⟩ | ⟨g', off, cur, rfl, rfl, hh, h1, _⟩ <;> omega
theorem OwnA.keepS {S : List Nat} (h : OwnA w e A n c xs fp) (hk : Keep S w w') (hd : ∀ g ∈ fp, g ∉ S) : OwnA w' e A n c xs fp := by
  refine ⟨h.1, ?_⟩
  rcases h.2 with h0 | ⟨g, off, cur, rfl, rfl, hh, r⟩
  · exact .inl h0
  · exact .inr ⟨g, off, cur, rfl, rfl, (hk.block g (heap_lt hh) (hd g (by simp))).trans hh, r⟩
theorem OwnA.alloc (h : OwnA w e A n c xs fp) (o : Obj) : OwnA (w.alloc o) e A n c xs fp := h.keepS ((Keep.refl [] w).alloc o) (by simp)
theorem OwnA.drewN (h : OwnA w e A n c xs fp) (k : Nat) : OwnA (w.drewN k) e A n c xs fp := h
theorem OwnA.setCell {p : Addr} (h : OwnA w e A n c xs fp) (hp : p.block ∉ fp) (u : Value) : OwnA (w.setCell p u) e A n c xs fp :=
  h.keepS ((Keep.refl [p.block] w).setCell (.inl (by simp)) u) (by simp; rintro g hg rfl; exact hp hg)
theorem OwnA.nil (w : World) (e : TypeId) : OwnA w e none 0 0 [] [] := ⟨rfl, .inl ⟨rfl, rfl, rfl, rfl⟩⟩
/-- cut to its first k elements -/
theorem OwnA.take (h : OwnA w e A n c xs fp) {k : Nat} (hk : k ≤ n) : OwnA w e A k c (xs.take k) fp := by
  refine ⟨by rw [List.length_take, h.1]; omega, ?_⟩
  rcases h.2 with ⟨a, b, c', d⟩ | ⟨g, off, cur, rfl, rfl, hh, h1, h2, h3, h4⟩
  · exact .inl ⟨a, by omega, c', d⟩
  · refine .inr ⟨g, off, cur, rfl, rfl, hh, by omega, h2, h3, fun j u hu => h4 j u ?_⟩
    rw [List.getElem?_take] at hu
    split at hu
    · exact hu
    · cases hu
theorem OwnA.some_ (h : OwnA w e A n c xs fp) (hn : 0 < n) : ∃ g off, A = some ⟨g, off, none⟩ ∧ fp = [g] ∧ g < w.heap.size ∧ (∀ j u, xs[j]? = some u → w.cell? ⟨g, off + j, none⟩ = some u) ∧ (∀ j, w.frozen? ⟨g, j, none⟩ = false) := by
  rcases h.2 with ⟨_, h0, _⟩ | ⟨g, off, cur, rfl, rfl, hh, h1, h2, h3, h4⟩
  · omega
  · exact ⟨g, off, rfl, rfl, heap_lt hh, fun j u hu => (cell_of_heap hh _).trans (h4 j u hu), fun j => frozen_of_heap hh j⟩
theorem OwnA.rd (h : OwnA w e A n c xs fp) : Rd w 1 A n xs := by
  refine ⟨by rw [h.1]; omega, fun hn => ?_⟩
  obtain ⟨g, off, e, _, hl, hc, _⟩ := h.some_ hn
  exact ⟨g, off, e, hl, hc⟩
/-- without its first element -/
theorem OwnA.tail {g off : Nat} (h : OwnA w e (some ⟨g, off, none⟩) n c xs fp) (hn : 1 < n) : OwnA w e (some ⟨g, off + 1, none⟩) (n - 1) (c - 1) xs.tail fp := by
  refine ⟨by rw [List.length_tail, h.1], .inr ?_⟩
  rcases h.2 with ⟨h0, _⟩ | ⟨g', off', cur, he, rfl, hh, h1, h2, h3, h4⟩
  · cases h0
  · injection he with he
    injection he with e1 e2 _
    subst e1 e2
    refine ⟨g, off + 1, cur, rfl, rfl, hh, by omega, by omega, by omega, fun j u hu => ?_⟩
    rw [List.getElem?_tail] at hu
    have := h4 (j + 1) u hu
    rwa [show off + (j + 1) = off + 1 + j from by omega] at this

variable {P : Program}
theorem setCells_one (w : World) (b off : Nat) (u : Value) : w.setCells b off [u] = w.setCell ⟨b, off, none⟩ u := by
  simp [World.setCells]
/-- append of one element onto such a slice -/
theorem run_append_A (t ty : TypeId) (i : TypeInfo) (z : Value) (bytes : Nat) (ht : P.underlying t = some (.slice e)) (hi : P.info? e = some i) (hz : i.zero = some z)
    (hsize : i.size = 1) (hby : i.bytes = bytes) (hzs : z.cells.size = 1) (hown : OwnA w e A n c xs fp) (ad : Addr) (u : Value) (hu : w.cell? ad = some u) (h1 : u.oneCell' = true)
    (hn : n + 1 ≤ 1000000000000) (hbytes : bytes ≤ 100) :
    ∃ g off c' w', (Builtin.append_ #[t, t] ty #[.slice A n c, .slice (some ad) 1 1]).run P w = .ok (.slice (some ⟨g, off, none⟩) (n + 1) c') w' ∧
      OwnA w' e (some ⟨g, off, none⟩) (n + 1) c' (xs ++ [u]) [g] ∧ (g ∈ fp ∨ w.heap.size = g) ∧ g < w'.heap.size ∧ Keep fp w w' := by
  subst hby
  have hb1 : (n + 1) * i.bytes ≤ 140737488355328 := Nat.le_trans (Nat.mul_le_mul hn hbytes) (by decide)
  have hnews : ∀ j v, [u][j]? = some v → w.cell? (ad.add j) = some v := by
    intro j v hv
    cases j with
    | zero => simpa [Addr.add] using (by simpa using hv : u = v) ▸ hu
    | succ j => simp at hv
  have hl : [u].length = 1 * i.size := by simp [hsize]
  have h1' : ∀ v ∈ [u], v.oneCell' = true := by simpa using h1
  have hmx : n + 1 ≤ maxLen := by simp only [maxLen]; omega
  -- the new block
  have grown : ∀ (old : Nat) (olds : List Value), olds = xs → 
      OwnA (w.drew.alloc (.cells (olds.toArray ++ [u].toArray ++ Builtin.zeroCells z.cells (grownCap w (n + 1) old e - (n + 1))) e)) e (some ⟨w.heap.size, 0, none⟩) (n + 1) (grownCap w (n + 1) old e) (xs ++ [u]) [w.heap.size] := by
    rintro old olds rfl
    have hge := grownCap_ge w (n + 1) old e
    have hcm : grownCap w (n + 1) old e ≤ maxLen := grownCap_le_maxLen w (n + 1) old e hmx
    simp only [maxLen] at hcm
    refine ⟨by simp [hown.1], .inr ⟨_, 0, _, rfl, rfl, heap_alloc_new w.drew _, hge, hcm, ?_, ?_⟩⟩
    · simp only [Array.size_append, List.size_toArray, size_zeroCells, hzs, hown.1, List.length_singleton]
      omega
    · intro j v hv
      have hlt : j < (olds ++ [u]).length := (List.getElem?_eq_some_iff.1 hv).1
      rw [Nat.zero_add, Array.getElem?_append_left (by simpa using hlt)]
      simpa using hv
  have hkeep : ∀ o : Obj, Keep fp w (w.drew.alloc o) := fun o => ((Keep.refl fp w).drew).alloc o
  rcases hown.2 with ⟨rfl, rfl, rfl, rfl⟩ | ⟨g, off, cur, rfl, rfl, hh, hnc, hcm, hcs, hat⟩
  · have hx : xs = [] := List.eq_nil_of_length_eq_zero hown.1
    subst hx
    have hr := run_append_nil (P := P) w t ty e i z ht hi hz ad 1 1 [u] hl hnews (by omega) (by omega) (by simp at hb1; omega)
    have hg := grown 0 [] rfl
    simp only [Nat.zero_add, List.nil_append, Array.empty_append] at hg ⊢
    exact ⟨_, 0, _, _, hr, hg, .inr rfl, by simp, hkeep _⟩
  · by_cases hroom : n + 1 ≤ c
    · have hlt : off + n < cur.size := by omega
      have hr := run_append_room_cells (P := P) w t ty e i ht hi g off n c ad 1 1 [u] hl hnews h1' hroom (by
        intro j hj
        obtain rfl : j = 0 := by simpa using hj
        have hlt' : off + n * i.size + 0 < cur.size := by rw [hsize]; omega
        rw [cell_of_heap hh, Array.getElem?_eq_getElem hlt']
        rfl) (by intro j hj; exact frozen_of_heap hh _)
      refine ⟨g, off, c, _, hr, ⟨by simp [hown.1], .inr ⟨g, off, cur.setIfInBounds (off + n) u, rfl, rfl, ?_, hroom, hcm, by simp [hcs], ?_⟩⟩, .inl (by simp), ?_, ?_⟩
      · rw [setCells_one, hsize, Nat.mul_one]
        exact heap_set hh _ _
      · intro j v hv
        rw [List.getElem?_append] at hv
        split at hv
        · rename_i hj
          rw [Array.getElem?_setIfInBounds_ne (by have := hown.1; omega)]
          exact hat j v hv
        · rename_i hj
          have hj2 : j = n := by
            have h5 := (List.getElem?_eq_some_iff.1 hv).1
            have h6 := hown.1
            simp at h5
            omega
          subst hj2
          have h7 : u = v := by simpa [hown.1] using hv
          subst h7
          simp [hlt]
      · rw [setCells_one]
        have := heap_lt hh
        simpa [World.setCell] using this
      · rw [setCells_one]
        exact (Keep.refl _ _).setCell (.inl (by simp)) _
    · have holds : ∀ j v, xs[j]? = some v → w.cell? ((⟨g, off, none⟩ : Addr).add j) = some v := by
        intro j v hv
        rw [show (⟨g, off, none⟩ : Addr).add j = ⟨g, off + j, none⟩ from by simp [Addr.add]]
        exact (cell_of_heap hh _).trans (hat j v hv)
      have hr := run_append_grow (P := P) w t ty e i z ht hi hz ⟨g, off, none⟩ n c xs (by simp [hown.1, hsize]) holds ad 1 1 [u] hl hnews (by omega) (by omega) (growslice_fits (by omega) hb1)
      exact ⟨_, 0, _, _, hr, grown c xs rfl, .inr rfl, by simp, hkeep _⟩

/-- at an operation -/
theorem wp_append_A {o : Oper} {a : Act} {K : Act → World → Prop} {Q : Exit → Act → World → Prop} (s x : Operand) (t : TypeId)
    (ho : o.op = .call { callee := .builtin .append, args := #[s, x], argTypes := #[t, t] })
    (i : TypeInfo) (z : Value) (bytes : Nat) (ht : P.underlying t = some (.slice e)) (hi : P.info? e = some i) (hz : i.zero = some z)
    (hsize : i.size = 1) (hby : i.bytes = bytes) (hzs : z.cells.size = 1) (hs : a.eval s = .slice A n c) (ad : Addr) (hx : a.eval x = .slice (some ad) 1 1)
    (u : Value) (hown : OwnA w e A n c xs fp) (hu : w.cell? ad = some u) (h1 : u.oneCell' = true)
    (hn : n + 1 ≤ 1000000000000) (hbytes : bytes ≤ 100)
    (h : ∀ g off c' w', OwnA w' e (some ⟨g, off, none⟩) (n + 1) c' (xs ++ [u]) [g] → (g ∈ fp ∨ w.heap.size = g) → g < w'.heap.size → Keep fp w w' → K (a.put o.dst (.slice (some ⟨g, off, none⟩) (n + 1) c')) w') : o.wp P a w K Q := by
  obtain ⟨g, off, c', w', hr, h2, h3, h4, h5⟩ := run_append_A (P := P) t o.type i z bytes ht hi hz hsize hby hzs hown ad u hu h1 hn hbytes
  unfold Oper.wp execOp
  simp only [ho, resolve, invoke, builtin, Sem.run_bind, Sem.run_pure, Result.andThen_ok, List.map_toArray, List.map_cons, List.map_nil, hs, hx, hr]
  exact h g off c' w' h2 h3 h4 h5

theorem wpList_append_A {ops : Array Oper} {rest : List Oper} {o : Oper} {a : Act} {Q : Exit → Act → World → Prop} (hgd : o.guard = none) (s x : Operand) (t : TypeId)
    (ho : o.op = .call { callee := .builtin .append, args := #[s, x], argTypes := #[t, t] })
    (i : TypeInfo) (z : Value) (bytes : Nat) (ht : P.underlying t = some (.slice e)) (hi : P.info? e = some i) (hz : i.zero = some z)
    (hsize : i.size = 1) (hby : i.bytes = bytes) (hzs : z.cells.size = 1) (hs : a.eval s = .slice A n c) (ad : Addr) (hx : a.eval x = .slice (some ad) 1 1)
    (u : Value) (hown : OwnA w e A n c xs fp) (hu : w.cell? ad = some u) (h1 : u.oneCell' = true)
    (hn : n + 1 ≤ 1000000000000) (hbytes : bytes ≤ 100)
    (h : ∀ g off c' w', OwnA w' e (some ⟨g, off, none⟩) (n + 1) c' (xs ++ [u]) [g] → (g ∈ fp ∨ w.heap.size = g) → g < w'.heap.size → Keep fp w w' → wpList P ops Q rest (a.put o.dst (.slice (some ⟨g, off, none⟩) (n + 1) c')) w') : wpList P ops Q (o :: rest) a w :=
  wpList_plain hgd fun _ hK => wp_append_A s x t ho i z bytes ht hi hz hsize hby hzs hs ad hx u hown hu h1 hn hbytes fun g off c' w' h2 h3 h4 h5 => hK _ _ (h g off c' w' h2 h3 h4 h5)

theorem step_append_A {ops : Array Oper} {o : Oper} {a : Act} {K : Act → World → Prop} {Q : Exit → Act → World → Prop} {E : Prop} (hgd : o.guard = none) (s x : Operand) (t : TypeId)
    (ho : o.op = .call { callee := .builtin .append, args := #[s, x], argTypes := #[t, t] })
    (i : TypeInfo) (z : Value) (bytes : Nat) (ht : P.underlying t = some (.slice e)) (hi : P.info? e = some i) (hz : i.zero = some z)
    (hsize : i.size = 1) (hby : i.bytes = bytes) (hzs : z.cells.size = 1) (hs : a.eval s = .slice A n c) (ad : Addr) (hx : a.eval x = .slice (some ad) 1 1)
    (u : Value) (hown : OwnA w e A n c xs fp) (hu : w.cell? ad = some u) (h1 : u.oneCell' = true)
    (hn : n + 1 ≤ 1000000000000) (hbytes : bytes ≤ 100)
    (h : ∀ g off c' w', OwnA w' e (some ⟨g, off, none⟩) (n + 1) c' (xs ++ [u]) [g] → (g ∈ fp ∨ w.heap.size = g) → g < w'.heap.size → Keep fp w w' → K (a.put o.dst (.slice (some ⟨g, off, none⟩) (n + 1) c')) w') :
    if Region.wanted o (yielded ops a.tmps) = true then Oper.wp P o a w K Q else E := by
  have hw : Region.wanted o (yielded ops a.tmps) = true := by simp [Region.wanted, hgd]
  rw [if_pos hw]
  exact wp_append_A s x t ho i z bytes ht hi hz hsize hby hzs hs ad hx u hown hu h1 hn hbytes h
end

end Go.Proofs.YtaokegobilphnaaGreatDoor
/- What the functions of layer 8 compute, as plain Lean functions over whole numbers. No program is named here. -/
namespace Go.Proofs.YtaokegobilphnaaGreatDoor.Sp

def within (n lo hi : Int) : Bool := decide (lo ≤ n) && decide (n ≤ hi)

structure Stp where
  cls : Int
  ton : Int
  up : Int
  dn : Int
deriving DecidableEq, Inhabited

structure Pol where
  steps : List Stp
  hold : Int
  calm : Int
  notice : Int
  grace : Int

/-- the greatest index (below n) whose number is at most sev; else 0 -/
def upToN (l : List Int) (sev : Int) : Nat → Int
  | 0 => 0
  | n + 1 => if l.getD n 0 ≤ sev then (n : Int) else upToN l sev n

def upTo (l : List Int) (sev : Int) : Int := upToN l sev l.length

structure Ves where
  cls : Int
  ton : Int
  esc : Bool
deriving DecidableEq, Inhabited

def vright (v : Ves) : Bool := within v.cls 0 6 && within v.ton 0 500000
def fulfils (v : Ves) (s : Stp) : Bool := decide (s.cls ≤ (if v.esc then v.cls + 1 else v.cls)) && decide (s.ton ≤ v.ton)

/-- how many of the first k stay when those at the end that can no longer be the first one are dropped -/
def popLen (gr : Bool) (x : Int) (V : List Int) : Nat → Nat
  | 0 => 0
  | k + 1 => if (V.getD k 0 == x) || (decide (x < V.getD k 0) != gr) then popLen gr x V k else k + 1

def headV (D : List (Int × Int)) : Int := (D.headD (0, 0)).1

/-- the numbers that a window keeps, and when they came, behind the next one -/
def pushD (wide at_ : Int) (gr : Bool) (D : List (Int × Int)) (x : Int) : List (Int × Int) :=
  let D1 := D.take (popLen gr x (D.map (·.1)) D.length) ++ [(x, at_)]
  if (D1.headD (0, 0)).2 ≤ at_ - wide then D1.tail else D1

end Go.Proofs.YtaokegobilphnaaGreatDoor.Sp
/- What the functions of layer 8 compute, further. -/
namespace Go.Proofs.YtaokegobilphnaaGreatDoor.Sp

/-- what the window keeps behind the first k numbers -/
def dq (wide : Int) (gr : Bool) (xs : List Int) : Nat → List (Int × Int)
  | 0 => []
  | k + 1 => pushD wide (k : Int) gr (dq wide gr xs k) (xs.getD k 0)

def slideN (wide : Int) (gr : Bool) (xs : List Int) (n : Nat) : List Int := (List.range n).map fun k => headV (dq wide gr xs (k + 1))
/-- the least (or greatest) of the last numbers, at each number -/
def slide (wide : Int) (gr : Bool) (xs : List Int) : List Int := slideN wide gr xs xs.length

theorem slideN_succ (wide : Int) (gr : Bool) (xs : List Int) (n : Nat) : slideN wide gr xs (n + 1) = slideN wide gr xs n ++ [headV (dq wide gr xs (n + 1))] := by
  simp [slideN, List.range_succ]
theorem pushD_length (wide at_ : Int) (gr : Bool) (D : List (Int × Int)) (x : Int) : (pushD wide at_ gr D x).length ≤ D.length + 1 := by
  simp only [pushD]
  split <;> simp <;> omega
theorem dq_length (wide : Int) (gr : Bool) (xs : List Int) (k : Nat) : (dq wide gr xs k).length ≤ k := by
  induction k with
  | zero => exact Nat.le_refl _
  | succ k ih => exact Nat.le_trans (pushD_length _ _ _ _ _) (by omega)

theorem slide_length (wide : Int) (gr : Bool) (xs : List Int) : (slide wide gr xs).length = xs.length := by simp [slide, slideN]

def ups (p : Pol) : List Int := p.steps.map (·.up)
def dns (p : Pol) : List Int := p.steps.map (·.dn)

/-- the first k of the numbers f, then those of l -/
def mixN (f : Nat → Int) (l : List Int) (k : Nat) : List Int := (List.range l.length).map fun i => if i < k then f i else l.getD i 0

theorem mixN_length (f : Nat → Int) (l : List Int) (k : Nat) : (mixN f l k).length = l.length := by simp [mixN]
theorem mixN_zero (f : Nat → Int) (l : List Int) : mixN f l 0 = l := by
  apply List.ext_getElem
  · simp [mixN]
  · intro i h1 h2
    simp [mixN, h2]
theorem mixN_set (f : Nat → Int) (l : List Int) (k : Nat) : (mixN f l k).set k (f k) = mixN f l (k + 1) := by
  apply List.ext_getElem
  · simp [mixN]
  · intro i h1 h2
    have hi : i < l.length := by simpa [mixN] using h2
    rw [List.getElem_set]
    by_cases hik : k = i
    · subst hik; simp [mixN]
    · rw [if_neg hik]
      simp only [mixN, List.getElem_map, List.getElem_range]
      by_cases h3 : i < k
      · rw [if_pos h3, if_pos (by omega)]
      · rw [if_neg h3, if_neg (by omega)]
theorem mixN_get (f : Nat → Int) (l : List Int) (k : Nat) (hk : k < l.length) : (mixN f l k).getD k 0 = l.getD k 0 := by
  simp [mixN, hk]
theorem mixN_all (f : Nat → Int) (l : List Int) : mixN f l l.length = (List.range l.length).map f := by
  unfold mixN
  apply List.map_congr_left
  intro i hi
  rw [if_pos (by simpa using hi)]

/-- the step that each day raises to, the step that each day keeps -/
def raisedAt (p : Pol) (sl : List Int) (i : Nat) : Int := upTo (ups p) (if (i : Int) + 1 < p.hold then 0 else sl.getD i 0)
def raisedS (p : Pol) (days : List Int) : List Int := (List.range days.length).map (raisedAt p (slide p.hold false days))
def keptAt (p : Pol) (sl : List Int) (i : Nat) : Int := upTo (dns p) (sl.getD i 0)
def keptS (p : Pol) (days : List Int) : List Int := (List.range days.length).map (keptAt p (slide p.calm true days))

/-- the step that is decided behind the first k days -/
def decN (up kp : List Int) : Nat → Int
  | 0 => 0
  | k + 1 => max (up.getD k 0) (min (kp.getD k 0) (decN up kp k))
def decL (up kp : List Int) (n : Nat) : List Int := (List.range n).map fun k => decN up kp (k + 1)
theorem decL_succ (up kp : List Int) (n : Nat) : decL up kp (n + 1) = decL up kp n ++ [decN up kp (n + 1)] := by simp [decL, List.range_succ]
def decidedS (p : Pol) (days : List Int) : List Int := decL (raisedS p days) (keptS p days) days.length
/-- the step in force on each day -/
def forceS (p : Pol) (days : List Int) : List Int := (slide (p.notice + 1) false (List.replicate p.notice.toNat 0 ++ decidedS p days)).drop p.notice.toNat

theorem raisedS_length (p : Pol) (days : List Int) : (raisedS p days).length = days.length := by simp [raisedS]
theorem keptS_length (p : Pol) (days : List Int) : (keptS p days).length = days.length := by simp [keptS]
theorem decidedS_length (p : Pol) (days : List Int) : (decidedS p days).length = days.length := by simp [decidedS, decL]
theorem forceS_length (p : Pol) (days : List Int) : (forceS p days).length = days.length := by
  simp [forceS, slide_length, decidedS_length]

end Go.Proofs.YtaokegobilphnaaGreatDoor.Sp
/- More words for memory. No program is named here. -/
namespace Go.Proofs.YtaokegobilphnaaGreatDoor
open Go Go.RowKit

section
variable {w w' : World} {e : TypeId} {n c : Nat} {xs : List Value} {fp : List Nat}
theorem OwnA.set_ {g off : Nat} (h : OwnA w e (some ⟨g, off, none⟩) n c xs fp) {k : Nat} (hk : k < n) (u : Value) : OwnA (w.setCell ⟨g, off + k, none⟩ u) e (some ⟨g, off, none⟩) n c (xs.set k u) fp := by
  refine ⟨by rw [List.length_set, h.1], .inr ?_⟩
  rcases h.2 with ⟨h0, _⟩ | ⟨g', off', cur, he, rfl, hh, h1, h2, h3, h4⟩
  · cases h0
  · injection he with he
    injection he with e1 e2 _
    subst e1 e2
    refine ⟨g, off, cur.setIfInBounds (off + k) u, rfl, rfl, heap_set hh _ _, h1, h2, by simpa using h3, fun j v hv => ?_⟩
    rw [List.getElem?_set] at hv
    by_cases hjk : k = j
    · subst hjk
      rw [if_pos rfl] at hv
      split at hv
      · injection hv with e1
        subst e1
        rw [Array.getElem?_setIfInBounds_self_of_lt (by omega)]
      · cases hv
    · rw [if_neg hjk] at hv
      rw [Array.getElem?_setIfInBounds_ne (by omega)]
      exact h4 j v hv
theorem Keep.cell {S : List Nat} (h : Keep S w w') {b o : Nat} {u : Value} (hc : w.cell? ⟨b, o, none⟩ = some u) (hn : b ∉ S) : w'.cell? ⟨b, o, none⟩ = some u :=
  (World.cell?_of_block (w := w) (h.block b (World.block_lt_of_cell? w _ hc) hn)).trans hc
theorem Keep.rd {S : List Nat} {size : Nat} {A : Option Addr} (h : Keep S w w') (hr : Rd w size A n xs) (hn : ∀ b off, A = some ⟨b, off, none⟩ → b ∉ S) : Rd w' size A n xs := by
  refine ⟨hr.1, fun h0 => ?_⟩
  obtain ⟨b, off, e, hl, hc⟩ := hr.2 h0
  exact ⟨b, off, e, Nat.lt_of_lt_of_le hl h.size, fun j u hu => h.cell (hc j u hu) (hn b off e)⟩
theorem Keep.below' {S : List Nat} (h : Keep S w w') {B : Nat} (hB : B ≤ w.heap.size) (hs : ∀ x ∈ S, B ≤ x) : Below B w w' := h.below hB hs
theorem OwnA.mem_ {A : Option Addr} (h : OwnA w e A n c xs fp) (h0 : 0 < n) {b off : Nat} (he : A = some ⟨b, off, none⟩) : b ∈ fp := by
  obtain ⟨g, o, e1, e2, _⟩ := h.some_ h0
  rw [he] at e1
  injection e1 with e1
  injection e1 with e1 _ _
  rw [e2, e1]; simp
theorem cell_new_one (w : World) (u : Value) (t : TypeId) : (w.alloc (.cells #[u] t)).cell? ⟨w.heap.size, 0, none⟩ = some u := by simp [World.cell?_alloc_new]
theorem Rd.lt' {size : Nat} {A : Option Addr} (hr : Rd w size A n xs) (h0 : 0 < n) {b off : Nat} (e : A = some ⟨b, off, none⟩) : b < w.heap.size := by
  obtain ⟨b', off', e', hl, _⟩ := hr.2 h0
  rw [e] at e'
  injection e' with e'
  injection e' with e1 _ _
  omega
end
end Go.Proofs.YtaokegobilphnaaGreatDoor
