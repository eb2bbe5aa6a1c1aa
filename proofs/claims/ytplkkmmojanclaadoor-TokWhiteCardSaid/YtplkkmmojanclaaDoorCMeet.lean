/- Part of the proof; printed or typed in this session; unused declarations and remarks struck by a program (wip/prune.py). -/
import Derived.Test.YtplkkmmojanclaaDoorCTk
import Derived.Test.YtplkkmmojanclaaDoorCQ0
import Derived.Test.YtplkkmmojanclaaDoorCQ7
import Derived.Test.YtplkkmmojanclaaDoorCQ8
set_option linter.all false
namespace Go.Proofs.YtplkkmmojanclaaDoor.Tk
open Go.RowKit Go.Proofs.YtplkkmmojanclaaDoor.My Go.Proofs.YtplkkmmojanclaaDoor.Q Go.Proofs.YtplkkmmojanclaaDoorW.PrintWords Go.Proofs.YtplkkmmojanclaaDoorW.PrintLast Go.Proofs.YtplkkmmojanclaaDoorW.PrintMore
theorem w64 {x : Int} (h : -9223372036854775808 ≤ x) (h' : x ≤ 9223372036854775807) : wrap64 x = x := by unfold wrap64; omega
def Vld (c : Int) : Prop := 0 ≤ c ∧ c ≤ 1114111 ∧ (c < 55296 ∨ 57343 < c)
theorem cp_vld (c : Int) : Vld (cp c) := by
  unfold cp Vld
  split <;> omega
theorem cp_of (c : Int) (h : Vld c) : cp c = c := by unfold cp; rw [if_pos]; unfold Vld at h; omega
def AllV (s : List Int) : Prop := ∀ c ∈ s, Vld c
def At (l : List Int) (p : Nat) (s : List Int) : Prop := p ≤ l.length ∧ (l.map cp).drop p = s
theorem At.len {l : List Int} {p : Nat} {s : List Int} (h : At l p s) : p + s.length = l.length := by
  obtain ⟨h1, rfl⟩ := h
  simp only [List.length_drop, List.length_map]
  omega
theorem At.vld {l : List Int} {p : Nat} {s : List Int} (h : At l p s) : AllV s := by
  obtain ⟨h1, rfl⟩ := h
  intro c hc
  obtain ⟨d, _, rfl⟩ := List.mem_map.1 (List.mem_of_mem_drop hc)
  exact cp_vld d
theorem At.drop {l : List Int} {p n : Nat} {s : List Int} (h : At l p s) (hn : n ≤ s.length) : At l (p + n) (s.drop n) := by
  have := h.len
  obtain ⟨h1, rfl⟩ := h
  exact ⟨by omega, by rw [List.drop_drop]⟩
theorem At.cons {l : List Int} {p : Nat} {c : Int} {s : List Int} (h : At l p (c :: s)) : At l (p + 1) s := h.drop (n := 1) (by simp)
theorem At.zero (l : List Int) : At l 0 (l.map cp) := ⟨Nat.zero_le _, rfl⟩
theorem hd_cons (c : Int) (s : List Int) : hd (c :: s) 0 = c := rfl
theorem hd_succ (c : Int) (s : List Int) (k : Nat) : hd (c :: s) (k + 1) = hd s k := by simp [hd]
theorem hd_nil (k : Nat) : hd [] k = -1 := by simp [hd]
theorem hd_drop (s : List Int) (n k : Nat) : hd (s.drop n) k = hd s (n + k) := by simp [hd, List.getD_eq_getElem?_getD, List.getElem?_drop]
theorem hd_none {s : List Int} (hv : AllV s) : hd s 0 = -1 ↔ s = [] := by
  cases s with
  | nil => simp [hd_nil]
  | cons c s =>
    rw [hd_cons]
    have h := hv c (by simp)
    unfold Vld at h
    constructor
    · intro e; omega
    · intro e; cases e
theorem at_eq {l : List Int} {p : Nat} {s : List Int} (h : At l p s) (hl : l.length ≤ 1000000) (k : Nat) (hk : k ≤ 10) : tok_scanner_at.f l p k = some (hd s k, (p : Int)) := by
  obtain ⟨h1, rfl⟩ := h
  unfold tok_scanner_at.f
  rw [w64 (by omega) (by omega)]
  rw [hd_drop]
  by_cases hc : (p : Int) + k ≥ (l.length : Int)
  · rw [if_pos hc]
    unfold hd
    rw [List.getD_eq_getElem?_getD, List.getElem?_eq_none (by simp only [List.length_map]; omega)]
    rfl
  · have hlt : p + k < l.length := by omega
    rw [if_neg hc, if_pos (by omega), if_pos (by omega)]
    have e : rd l ((p : Int) + k) = l[p + k] := by
      unfold rd
      rw [show ((p : Int) + k).toNat = p + k by omega, List.getD_eq_getElem?_getD, List.getElem?_eq_getElem hlt]
      rfl
    rw [e]
    have e2 : hd (l.map cp) (p + k) = cp l[p + k] := by
      unfold hd
      rw [List.getD_eq_getElem?_getD, List.getElem?_eq_getElem (by simpa using hlt)]
      simp
    rw [e2]
    unfold cp
    generalize l[p + k] = c
    by_cases h1 : c ≥ 0
    · by_cases h2 : c ≤ 1114111
      · by_cases h3 : c < 55296
        · rw [if_pos h1, if_pos h2, if_pos h3, if_pos (by omega)]
        · by_cases h4 : c > 57343
          · rw [if_pos h1, if_pos h2, if_neg h3, if_pos h4, if_pos (by omega)]
          · rw [if_pos h1, if_pos h2, if_neg h3, if_neg h4, if_neg (by omega)]
      · rw [if_pos h1, if_neg h2, if_neg (by omega)]
    · rw [if_neg h1, if_neg (by omega)]
theorem white_eq (c : Int) : tok_White.f c = some (isW c) := by
  unfold tok_White.f isW
  by_cases h1 : c = 9
  · rw [if_pos h1]; simp [h1]
  · by_cases h2 : c = 10
    · rw [if_neg h1, if_pos h2]; simp [h2]
    · rw [if_neg h1, if_neg h2]; simp [h1, h2, BEq.beq]
theorem digit_eq (c : Int) : tok_digit.f c = some (isD c) := by
  unfold tok_digit.f isD
  by_cases h1 : c ≥ 48
  · rw [if_pos h1]; simp [h1]
  · rw [if_neg h1]; simp; omega
theorem start_eq (c : Int) : tok_start.f c = some (isS c) := by
  unfold tok_start.f isS
  repeat' split
  all_goals (congr 1; first | (symm; apply decide_eq_true; omega) | (apply decide_eq_decide.2; omega))
theorem point_eq (c : Int) : tok_point.f c = some (isP c) := by
  unfold tok_point.f isP
  rw [start_eq, digit_eq]
  simp only [Option.bind_some]
  cases isS c
  · cases isD c
    · simp [BEq.beq]
    · simp
  · simp
theorem hex_ev (c : Int) (k : Nat) (hk : 1 ≤ k) : tok_hex.f k c = some (hex c) := by
  obtain ⟨k, rfl⟩ : ∃ m, k = m + 1 := ⟨k - 1, by omega⟩
  unfold tok_hex.f hex
  rw [digit_eq]
  simp only [Option.bind_some, tok_hex.j0]
  cases hd : isD c
  · have hd' := of_decide_eq_false hd
    simp only [Bool.false_eq_true, if_false]
    by_cases h1 : c ≥ 97
    · rw [if_pos h1]
      by_cases h2 : c ≤ 102
      · rw [if_pos (decide_eq_true h2), if_pos (show (97 : Int) ≤ c ∧ c ≤ 102 from ⟨h1, h2⟩), w64 (x := c - 97) (by omega) (by omega), w64 (by omega) (by omega)]
        congr 1; omega
      · rw [if_neg (by simpa using h2), if_neg (show ¬ ((97 : Int) ≤ c ∧ c ≤ 102) by omega), if_pos (show c ≥ 65 by omega), if_neg (show ¬ c ≤ 70 by omega), if_neg (show ¬ ((65 : Int) ≤ c ∧ c ≤ 70) by omega)]
    · rw [if_neg h1, if_neg (show ¬ ((97 : Int) ≤ c ∧ c ≤ 102) by omega)]
      by_cases h3 : c ≥ 65
      · by_cases h4 : c ≤ 70
        · rw [if_pos h3, if_pos h4, if_pos (show (65 : Int) ≤ c ∧ c ≤ 70 from ⟨h3, h4⟩), w64 (x := c - 65) (by omega) (by omega), w64 (by omega) (by omega)]
          congr 1; omega
        · rw [if_pos h3, if_neg h4, if_neg (by omega)]
      · rw [if_neg h3, if_neg (by omega)]
  · have hd' := of_decide_eq_true hd
    simp only [if_true]
    rw [w64 (by omega) (by omega)]
theorem wk (k : Nat) (h : k ≤ 10) : wrap64 ((k : Int) + 1) = ((k + 1 : Nat) : Int) := by rw [w64 (by omega) (by omega)]; omega
theorem wp (p : Nat) (h : p ≤ 1000000) : wrap64 ((p : Int) + 1) = ((p + 1 : Nat) : Int) := by rw [w64 (by omega) (by omega)]; omega
theorem wp2 (p : Nat) (h : p ≤ 1000000) : wrap64 ((p : Int) + 2) = ((p + 2 : Nat) : Int) := by rw [w64 (by omega) (by omega)]; omega
theorem escape_eq {l : List Int} {p : Nat} {s : List Int} (h : At l p s) (hl : l.length ≤ 1000000) (k : Nat) (hk : k ≤ 5) : tok_scanner_escape.f l p k = some (esc s k, (p : Int)) := by
  have e0 := at_eq h hl k (by omega)
  have e1 := at_eq h hl (k + 1) (by omega)
  unfold tok_scanner_escape.f esc
  simp only [wk k (by omega), e0, e1, Option.bind_some]
  by_cases h1 : hd s k = 92
  · by_cases h2 : hd s (k + 1) = 10
    · rw [if_pos h1, if_pos h2]; simp [h1, h2]
    · rw [if_pos h1, if_neg h2]; simp [h1, h2, bne, BEq.beq]
  · rw [if_neg h1]; simp [h1]
theorem name_eq {l : List Int} {p : Nat} {s : List Int} (h : At l p s) (hl : l.length ≤ 1000000) (k : Nat) (hk : k ≤ 4) : tok_scanner_name.f l p k = some (nam s k, (p : Int)) := by
  have e0 := at_eq h hl k (by omega)
  have e1 := at_eq h hl (k + 1) (by omega)
  have e2 := escape_eq h hl k (by omega)
  have e3 := escape_eq h hl (k + 1) (by omega)
  unfold tok_scanner_name.f nam
  simp only [wk k (by omega), e0, e1, e2, e3, Option.bind_some, start_eq]
  by_cases h1 : hd s k = 45
  · rw [if_pos h1, if_pos h1]
    cases isS (hd s (k + 1))
    · by_cases h2 : hd s (k + 1) = 45
      · simp [h2]
      · simp [h2]
    · simp
  · rw [if_neg h1, if_neg h1]
    cases isS (hd s k) <;> simp
theorem number_eq {l : List Int} {p : Nat} {s : List Int} (h : At l p s) (hl : l.length ≤ 1000000) (k : Nat) (hk : 2 ≤ k) : tok_scanner_number.f k l p = some (num s, (p : Int)) := by
  obtain ⟨k, rfl⟩ : ∃ m, k = m + 2 := ⟨k - 2, by omega⟩
  have e0 : tok_scanner_at.f l p 0 = some (hd s 0, (p : Int)) := at_eq h hl 0 (by omega)
  have e1 : tok_scanner_at.f l p 1 = some (hd s 1, (p : Int)) := at_eq h hl 1 (by omega)
  have e2 : tok_scanner_at.f l p 2 = some (hd s 2, (p : Int)) := at_eq h hl 2 (by omega)
  have w0 : wrap64 (0 + 1) = 1 := by decide +kernel
  have w1 : wrap64 (1 + 1) = 2 := by decide +kernel
  have j10 : ∀ m, tok_scanner_number.j1 (m + 1) 0 l p = some (isD (hd s 0) || decide (hd s 0 = 46) && isD (hd s 1), (p : Int)) := by
    intro m
    simp only [tok_scanner_number.j1, e0, e1, w0, Option.bind_some, digit_eq]
    cases isD (hd s 0)
    · by_cases hc : hd s 0 = 46
      · simp [hc]
      · simp [hc]
    · simp
  have j11 : ∀ m, tok_scanner_number.j1 (m + 1) 1 l p = some (isD (hd s 1) || decide (hd s 1 = 46) && isD (hd s 2), (p : Int)) := by
    intro m
    simp only [tok_scanner_number.j1, e1, e2, w1, Option.bind_some, digit_eq]
    cases isD (hd s 1)
    · by_cases hc : hd s 1 = 46
      · simp [hc]
      · simp [hc]
    · simp
  unfold tok_scanner_number.f num numAt sgn
  simp only [e0, Option.bind_some, tok_scanner_number.j0, j10, j11]
  by_cases h1 : hd s 0 = 43
  · rw [if_pos h1]; simp [h1]
  · rw [if_neg h1]
    by_cases h2 : hd s 0 = 45
    · simp [h2]
    · simp [h1, h2, BEq.beq]
end Go.Proofs.YtplkkmmojanclaaDoor.Tk
