/- Part of the proof; printed or typed in this session; unused declarations and remarks struck by a program (wip/prune.py). -/
import Derived.Test.YtplkkmmojanclaaDoorCMeet
set_option linter.all false
namespace Go.Proofs.YtplkkmmojanclaaDoor.Tk
open Go.RowKit Go.Proofs.YtplkkmmojanclaaDoor.My Go.Proofs.YtplkkmmojanclaaDoor.Q Go.Proofs.YtplkkmmojanclaaDoorW.PrintWords Go.Proofs.YtplkkmmojanclaaDoorW.PrintLast Go.Proofs.YtplkkmmojanclaaDoorW.PrintMore
theorem escd_eq (s : List Int) : escd s = if hex (hd s 0) = -1 then (hd s 0, s.drop 1) else fin (hexes 6 0 s) := rfl
theorem isW_nil : isW (-1) = false := by decide
theorem ne_of_hd {s : List Int} {c : Int} (h : hd s 0 = c) (hc : c ≠ -1) : ∃ s', s = c :: s' := by
  cases s with
  | nil => rw [hd_nil] at h; exact absurd h.symm hc
  | cons d s => exact ⟨s, by rw [hd_cons] at h; rw [h]⟩
theorem cons_of_hd {s : List Int} (h : hd s 0 ≠ -1) : ∃ c s', s = c :: s' := by
  cases s with
  | nil => exact absurd (hd_nil 0) h
  | cons d s => exact ⟨d, s, rfl⟩
theorem fin_ev {l : List Int} {p : Nat} {s : List Int} (h : At l p s) (hl : l.length ≤ 1000000) (n c : Int) (k : Nat) (hk : 1 ≤ k) : ∃ p', At l p' (fin (n, s)).2 ∧ tok_scanner_escaped.j1 k n c false l p = some ((fin (n, s)).1, (p' : Int)) := by
  obtain ⟨k, rfl⟩ : ∃ m, k = m + 1 := ⟨k - 1, by omega⟩
  have e0 : tok_scanner_at.f l p 0 = some (hd s 0, (p : Int)) := at_eq h hl 0 (by omega)
  simp only [tok_scanner_escaped.j1, e0, Option.bind_some, white_eq, Bool.false_eq_true, if_false, fin]
  have hple := h.1
  cases hw : isW (hd s 0)
  · refine ⟨p, by simpa using h, ?_⟩
    simp only [Bool.false_eq_true, if_false]
    repeat' split
    all_goals first | rfl | omega
  · have hne : hd s 0 ≠ -1 := fun e => by rw [e, isW_nil] at hw; cases hw
    obtain ⟨d, s', rfl⟩ := cons_of_hd hne
    refine ⟨p + 1, by simpa using h.cons, ?_⟩
    simp only [if_true]
    have := h.len
    rw [wp p (by omega)]
    repeat' split
    all_goals first | rfl | omega
theorem hex_bound (c : Int) : hex c = -1 ∨ 0 ≤ hex c ∧ hex c ≤ 15 := by
  unfold hex
  cases hd : isD c
  · simp only [Bool.false_eq_true, if_false]
    split
    · right; omega
    · split
      · right; omega
      · left; rfl
  · have := of_decide_eq_true hd
    simp only [if_true]
    right; omega
theorem hex_nil : hex (-1) = -1 := by decide
def pw : Nat → Int
  | 0 => 1
  | n + 1 => pw n * 16
theorem pw_le {j : Nat} (h : j ≤ 5) : pw j ≤ 1048576 := by
  rcases j with _ | _ | _ | _ | _ | _ | j
  all_goals first | omega | (simp only [pw]; omega)
theorem hexes_ev {l : List Int} (hl : l.length ≤ 1000000) : ∀ (m : Nat) (n : Int) (p : Nat) (s : List Int), m ≤ 6 → At l p s → 0 ≤ n → n < pw (6 - m) →
    ∃ p', At l p' (fin (hexes m n s)).2 ∧ Ev (fun k => tok_scanner_escaped.l0 k n ((6 - m : Nat) : Int) l p) ((fin (hexes m n s)).1, (p' : Int)) := by
  intro m
  induction m with
  | zero =>
    intro n p s _ h h0 hn
    obtain ⟨p', h1, h2⟩ := fin_ev h hl n ((6 - 0 : Nat) : Int) 1 (by omega)
    refine ⟨p', h1, 2, fun k hk => ?_⟩
    obtain ⟨k, rfl⟩ : ∃ m, k = m + 1 := ⟨k - 1, by omega⟩
    obtain ⟨p'', h1', h2'⟩ := fin_ev h hl n ((6 - 0 : Nat) : Int) k (by omega)
    have e : p'' = p' := by
      have := h1.len
      have := h1'.len
      omega
    subst e
    simp only [tok_scanner_escaped.l0]
    rw [if_neg (by decide)]
    exact h2'
  | succ m ih =>
    intro n p s hm h h0 hn
    have e0 : tok_scanner_at.f l p 0 = some (hd s 0, (p : Int)) := at_eq h hl 0 (by omega)
    have hlt : ((6 - (m + 1) : Nat) : Int) < 6 := by omega
    have hn5 : n < 1048576 := by have := pw_le (j := 6 - (m + 1)) (by omega); omega
    by_cases hx : hex (hd s 0) = -1
    · have e : hexes (m + 1) n s = (n, s) := by simp only [hexes, hx, if_true]
      rw [e]
      obtain ⟨p', h1, h2⟩ := fin_ev h hl n ((6 - (m + 1) : Nat) : Int) 1 (by omega)
      refine ⟨p', h1, 3, fun k hk => ?_⟩
      obtain ⟨k, rfl⟩ : ∃ m, k = m + 1 := ⟨k - 1, by omega⟩
      obtain ⟨p'', h1', h2'⟩ := fin_ev h hl n ((6 - (m + 1) : Nat) : Int) k (by omega)
      have e : p'' = p' := by
        have := h1.len
        have := h1'.len
        omega
      subst e
      simp only [tok_scanner_escaped.l0]
      rw [if_pos hlt, e0]
      simp only [Option.bind_some]
      rw [hex_ev _ _ (by omega)]
      simp only [Option.bind_some, hx]
      have e9 : ((-1 : Int) != -1) = false := rfl
      rw [e9]
      exact h2'
    · have hb := (hex_bound (hd s 0)).resolve_left hx
      have hne : hd s 0 ≠ -1 := fun e => by rw [e] at hx; exact hx hex_nil
      obtain ⟨d, s', rfl⟩ := cons_of_hd hne
      have e : hexes (m + 1) n (d :: s') = hexes m (n * 16 + hex d) s' := by
        simp only [hexes, hd_cons, List.drop_succ_cons, List.drop_zero]
        rw [if_neg (by simpa [hd_cons] using hx)]
      rw [e]
      rw [hd_cons] at hb hx e0
      have hpn : n * 16 + hex d < pw (6 - m) := by
        have : 6 - m = (6 - (m + 1)) + 1 := by omega
        rw [this, pw]
        omega
      obtain ⟨p', h1, K, h2⟩ := ih (n * 16 + hex d) (p + 1) s' (by omega) h.cons (by omega) hpn
      refine ⟨p', h1, K + 4, fun k hk => ?_⟩
      obtain ⟨k2, rfl⟩ : ∃ m, k = m + 1 := ⟨k - 1, by omega⟩
      obtain ⟨k, rfl⟩ : ∃ m, k2 = m + 1 := ⟨k2 - 1, by omega⟩
      have := h.len
      simp only [tok_scanner_escaped.l0]
      rw [if_pos hlt, e0]
      simp only [Option.bind_some]
      rw [hex_ev _ _ (by omega)]
      simp only [Option.bind_some, bne, beq_eq_false_iff_ne.2 hx, Bool.not_false, tok_scanner_escaped.j1, if_true, e0]
      rw [hex_ev _ _ (by omega)]
      simp only [Option.bind_some]
      rw [wp p (by omega), w64 (x := n * 16) (by omega) (by omega), w64 (x := n * 16 + hex d) (by omega) (by omega), w64 (x := ((6 - (m + 1) : Nat) : Int) + 1) (by omega) (by omega)]
      have e6 : ((6 - (m + 1) : Nat) : Int) + 1 = ((6 - m : Nat) : Int) := by omega
      rw [e6]
      exact h2 k (by omega)
theorem escaped_ev {l : List Int} {p : Nat} {s : List Int} (h : At l p s) (hl : l.length ≤ 1000000) (hs : s ≠ []) : ∃ p', At l p' (escd s).2 ∧ Ev (fun k => tok_scanner_escaped.f k l p) ((escd s).1, (p' : Int)) := by
  have e0 : tok_scanner_at.f l p 0 = some (hd s 0, (p : Int)) := at_eq h hl 0 (by omega)
  rw [escd_eq]
  by_cases hx : hex (hd s 0) = -1
  · rw [if_pos hx]
    cases s with
    | nil => exact absurd rfl hs
    | cons d s =>
      refine ⟨p + 1, by simpa using h.cons, 1, fun k hk => ?_⟩
      have := h.len
      have := h.1
      simp only [tok_scanner_escaped.f, e0, Option.bind_some]
      rw [hex_ev _ _ hk]
      simp only [Option.bind_some, hx, if_true]
      simp only [List.length_cons] at *
      rw [wp p (by omega)]
  · rw [if_neg hx]
    obtain ⟨p', h1, K, h2⟩ := hexes_ev hl 6 0 p s (Nat.le_refl _) h (by omega) (by simp [pw])
    refine ⟨p', h1, K + 1, fun k hk => ?_⟩
    simp only [tok_scanner_escaped.f, e0, Option.bind_some]
    rw [hex_ev _ _ (by omega)]
    simp only [Option.bind_some]
    rw [if_neg hx]
    exact h2 k (by omega)
def enc (c : Int) : List Int :=
  if c ≤ 127 then [c]
  else if c ≤ 2047 then [192 + c / 64, 128 + c % 64]
  else if c ≤ 65535 then [224 + c / 4096, 128 + c / 64 % 64, 128 + c % 64]
  else [240 + c / 262144, 128 + c / 4096 % 64, 128 + c / 64 % 64, 128 + c % 64]
def utf8 (l : List Int) : List Int := l.flatMap enc
theorem or192 : ∀ n < 32, Go.bits .or .u8 192 (n : Nat) = 192 + (n : Int) := by decide +kernel
theorem or224 : ∀ n < 16, Go.bits .or .u8 224 (n : Nat) = 224 + (n : Int) := by decide +kernel
theorem or240 : ∀ n < 5, Go.bits .or .u8 240 (n : Nat) = 240 + (n : Int) := by decide +kernel
theorem or_at (b : Int) (m : Nat) (h : ∀ n < m, Go.bits .or .u8 b (n : Nat) = b + (n : Int)) {x : Int} (h0 : 0 ≤ x) (h1 : x < m) : Go.bits .or .u8 b x = b + x := by
  obtain ⟨n, rfl⟩ := Int.eq_ofNat_of_zero_le h0
  exact h n (by omega)
theorem enc_length (c : Int) : (enc c).length ≤ 4 := by
  unfold enc
  repeat' split
  all_goals simp
theorem append_eq (acc : List Int) (c : Int) (hc : Vld c) (ha : acc.length ≤ 100000000000) (k : Nat) (hk : 1 ≤ k) : utf8_AppendRune.f k acc c = some (acc ++ enc c) := by
  obtain ⟨k, rfl⟩ : ∃ m, k = m + 1 := ⟨k - 1, by omega⟩
  unfold Vld at hc
  have e1 : c % 4294967296 = c := by omega
  unfold utf8_AppendRune.f enc
  rw [e1]
  by_cases h1 : c ≤ 127
  · rw [if_pos h1, if_pos (by omega), if_pos h1]
    rw [show c % 256 = c by omega]
  · rw [if_neg h1, if_neg h1]
    unfold utf8_appendRuneNonASCII.f
    rw [e1]
    by_cases h2 : c ≤ 2047
    · rw [if_pos h2, if_pos h2]
      simp only [Option.bind_some, List.length_cons, List.length_nil]
      rw [if_pos (by omega), or_at 192 32 or192 (by omega) (by omega)]
      simp only [Option.bind_some, Option.some.injEq, List.append_cancel_left_eq, List.cons.injEq, and_true]
      omega
    · rw [if_neg h2, if_neg h2]
      simp only [utf8_appendRuneNonASCII.j0]
      by_cases h3 : c < 55296
      · rw [if_pos h3, decide_eq_true h3]
        simp only [if_true, Option.bind_some, List.length_cons, List.length_nil]
        rw [if_pos (by omega), or_at 224 16 or224 (by omega) (by omega), if_pos (show c ≤ 65535 by omega)]
        simp only [Option.bind_some, Option.some.injEq, List.append_cancel_left_eq, List.cons.injEq, and_true]
        omega
      · rw [if_neg h3, if_pos (show 57343 < c by omega)]
        by_cases h4 : c ≤ 65535
        · rw [if_pos (decide_eq_true h4)]
          simp only [Option.bind_some, List.length_cons, List.length_nil]
          rw [if_pos (by omega), or_at 224 16 or224 (by omega) (by omega), if_pos h4]
          simp only [Option.bind_some, Option.some.injEq, List.append_cancel_left_eq, List.cons.injEq, and_true]
          omega
        · rw [if_neg (by simpa using h4), if_pos (by omega), if_pos (by omega), if_neg h4]
          simp only [Option.bind_some, List.length_cons, List.length_nil]
          rw [if_pos (by omega), or_at 240 5 or240 (by omega) (by omega)]
          simp only [Option.bind_some, Option.some.injEq, List.append_cancel_left_eq, List.cons.injEq, and_true]
          omega
theorem bytes_loop (out : List Int) (ho : AllV out) (hl : out.length ≤ 10000000) : ∀ (d i : Nat), i + d = out.length → ∀ acc : List Int, acc.length ≤ 4 * i →
    ∀ k, d + 2 ≤ k → text_Bytes.l0 k acc out (out.length : Int) (i : Int) = some (acc ++ utf8 (out.drop i)) := by
  intro d
  induction d with
  | zero =>
    intro i hi acc _ k hk
    obtain ⟨k, rfl⟩ : ∃ m, k = m + 1 := ⟨k - 1, by omega⟩
    simp only [text_Bytes.l0]
    rw [if_neg (by omega), List.drop_eq_nil_of_le (by omega)]
    simp [utf8]
  | succ d ih =>
    intro i hi acc ha k hk
    obtain ⟨k, rfl⟩ : ∃ m, k = m + 1 := ⟨k - 1, by omega⟩
    have hlt : i < out.length := by omega
    have hr : rd out (i : Int) = out[i] := by
      unfold rd
      rw [Int.toNat_natCast, List.getD_eq_getElem?_getD, List.getElem?_eq_getElem hlt]
      rfl
    have hv := ho out[i] (List.getElem_mem hlt)
    have hv' := hv
    unfold Vld at hv'
    simp only [text_Bytes.l0]
    rw [if_pos (by omega), if_pos (by omega), if_pos (by omega), hr, if_neg (by omega), if_neg (by omega)]
    have hw : wrap32 out[i] = out[i] := by unfold wrap32; omega
    rw [hw, append_eq acc _ hv (by omega) k (by omega)]
    simp only [Option.bind_some]
    rw [w64 (by omega) (by omega), show (i : Int) + 1 = ((i + 1 : Nat) : Int) by omega]
    have hel := enc_length out[i]
    rw [ih (i + 1) (by omega) _ (by rw [List.length_append]; omega) k (by omega)]
    rw [List.drop_eq_getElem_cons hlt (l := out)]
    simp only [utf8, List.flatMap_cons, List.append_assoc]
theorem bytes_ev (out : List Int) (ho : AllV out) (hl : out.length ≤ 10000000) (k : Nat) (hk : out.length + 2 ≤ k) : text_Bytes.f k out = some (utf8 out) := by
  unfold text_Bytes.f
  have := bytes_loop out ho hl out.length 0 (by omega) [] (by simp) k hk
  simpa using this
end Go.Proofs.YtplkkmmojanclaaDoor.Tk
