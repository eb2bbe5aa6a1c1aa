/- Part of the proof; printed or typed in this session; unused declarations and remarks struck by a program (wip/prune.py). -/
import Derived.Test.YtplkkmmojanclaaDoorCMeet7
import Derived.Test.YtplkkmmojanclaaDoorCQ16
import Derived.Test.YtplkkmmojanclaaDoorCQ17
import Derived.Test.YtplkkmmojanclaaDoorCAlive
set_option linter.all false
namespace Go.Proofs.YtplkkmmojanclaaDoor.Tk
open Go.RowKit Go.Proofs.YtplkkmmojanclaaDoor.My Go.Proofs.YtplkkmmojanclaaDoor.Q Go.Proofs.YtplkkmmojanclaaDoorW.PrintWords Go.Proofs.YtplkkmmojanclaaDoorW.PrintLast Go.Proofs.YtplkkmmojanclaaDoorW.PrintMore
theorem bytesOf_app (a b : List Int) (ha : Byt a) (hb : Byt b) : Byt (a ++ b) := fun c hc => by
  rcases List.mem_append.1 hc with h | h
  · exact ha c h
  · exact hb c h
def byteAt (l : List Int) (i : Nat) : Nat := ((strOfNums l).get! i).toNat
theorem byteAt_lt {l : List Int} {i : Nat} (h : i < l.length) : byteAt l i = (u8 l[i]).toNat := by
  unfold byteAt
  rw [strOfNums_get l i h, List.getD_eq_getElem?_getD, List.getElem?_eq_getElem h]
  rfl
theorem byteAt_app {a b : List Int} {i : Nat} (h : i < a.length) : byteAt (a ++ b) i = byteAt a i := by
  rw [byteAt_lt h, byteAt_lt (by rw [List.length_append]; omega), List.getElem_append_left h]
theorem byteAt_mid {a b : List Int} {x : Int} (hx : 0 ≤ x ∧ x < 128) : byteAt (a ++ x :: b) a.length < 128 := by
  rw [byteAt_lt (by rw [List.length_append, List.length_cons]; omega)]
  rw [List.getElem_append_right (Nat.le_refl _)]
  simp only [Nat.sub_self, List.getElem_cons_zero]
  have := u8_nat (c := x) (by omega)
  omega
theorem dec_eq (x : Int) (l : List Int) : dec (x :: l) = Lib.decodeN (l.length + 1) (byteAt (x :: l) 0) (byteAt (x :: l) 1) (byteAt (x :: l) 2) (byteAt (x :: l) 3) := by
  have h : (strOfNums (x :: l)).size ≠ 0 := by rw [strOfNums_size]; simp
  simp only [dec, Lib.decodeGo, h, if_false]
  rw [Lib.decode_at, strOfNums_size]
  rfl
theorem dec_ascii {x : Int} (hx : 0 ≤ x ∧ x < 128) (l : List Int) : dec (x :: l) = (x.toNat, 1) := by
  rw [dec_eq]
  have h0 : byteAt (x :: l) 0 = x.toNat := by
    rw [byteAt_lt (by simp)]
    have := u8_nat (c := x) (by omega)
    simp only [List.getElem_cons_zero]
    omega
  rw [h0]
  unfold Lib.decodeN
  rw [if_pos (by omega)]
theorem pts_ascii {x : Int} (hx : 0 ≤ x ∧ x < 128) (l : List Int) : pts (x :: l) = x :: pts l := by
  rw [pts_cons, dec_ascii hx]
  simp only [List.drop_succ_cons, List.drop_zero]
  congr 1
  omega
theorem decodeN_split (n0 n b0 b1 b2 b3 c1 c2 c3 : Nat) (h0 : 1 ≤ n0) (hn : n0 < n) (h1 : 1 < n0 → c1 = b1) (h2 : 2 < n0 → c2 = b2) (h3 : 3 < n0 → c3 = b3)
    (g1 : n0 = 1 → c1 < 128) (g2 : n0 = 2 → c2 < 128) (g3 : n0 = 3 → c3 < 128) : Lib.decodeN n b0 c1 c2 c3 = Lib.decodeN n0 b0 b1 b2 b3 := by
  have e1 : (1 < n ∧ c1 / 64 = 2) = (1 < n0 ∧ b1 / 64 = 2) := by
    apply propext
    constructor
    · rintro ⟨_, h⟩
      by_cases k : n0 = 1
      · have := g1 k; omega
      · have := h1 (by omega); subst this; exact ⟨by omega, h⟩
    · rintro ⟨k, h⟩
      have := h1 k; subst this; exact ⟨by omega, h⟩
  by_cases k1 : n0 = 1
  · have hb : ¬ (1 < n0 ∧ b1 / 64 = 2) := by omega
    unfold Lib.decodeN
    simp only [e1, hb, and_false, false_and, if_false]
  · obtain rfl := h1 (by omega)
    have e2 : (2 < n ∧ c2 / 64 = 2) = (2 < n0 ∧ b2 / 64 = 2) := by
      apply propext
      constructor
      · rintro ⟨_, h⟩
        by_cases k : n0 = 2
        · have := g2 k; omega
        · have := h2 (by omega); subst this; exact ⟨by omega, h⟩
      · rintro ⟨k, h⟩
        have := h2 k; subst this; exact ⟨by omega, h⟩
    by_cases k2 : n0 = 2
    · have hb : ¬ (2 < n0 ∧ b2 / 64 = 2) := by omega
      unfold Lib.decodeN
      simp only [e1, e2, hb, and_false, false_and, if_false]
    · obtain rfl := h2 (by omega)
      have e3 : (3 < n ∧ c3 / 64 = 2) = (3 < n0 ∧ b3 / 64 = 2) := by
        apply propext
        constructor
        · rintro ⟨_, h⟩
          by_cases k : n0 = 3
          · have := g3 k; omega
          · have := h3 (by omega); subst this; exact ⟨by omega, h⟩
        · rintro ⟨k, h⟩
          have := h3 k; subst this; exact ⟨by omega, h⟩
      by_cases k3 : n0 = 3
      · have hb : ¬ (3 < n0 ∧ b3 / 64 = 2) := by omega
        unfold Lib.decodeN
        simp only [e1, e2, e3, hb, and_false, if_false]
      · obtain rfl := h3 (by omega)
        unfold Lib.decodeN
        simp only [e1, e2, e3]
theorem decN_width (n b0 b1 b2 b3 : Nat) (hn : 1 ≤ n) : (Lib.decodeN n b0 b1 b2 b3).2 ≤ n := by
  unfold Lib.decodeN
  repeat' split
  all_goals (simp only; omega)
theorem dec_fits (x : Int) (l : List Int) : (dec (x :: l)).2 ≤ l.length + 1 := by
  rw [dec_eq]
  exact decN_width _ _ _ _ _ (by omega)
theorem dec_split (y : Int) (a : List Int) {x : Int} (hx : 0 ≤ x ∧ x < 128) (b : List Int) : dec (y :: a ++ x :: b) = dec (y :: a) := by
  rw [List.cons_append, dec_eq, dec_eq, ← List.cons_append]
  have hl : (y :: a).length = a.length + 1 := by simp
  rw [byteAt_app (i := 0) (by simp)]
  refine decodeN_split _ _ _ _ _ _ _ _ _ (by omega) (by rw [List.length_append, List.length_cons]; omega) (fun h => byteAt_app (by omega)) (fun h => byteAt_app (by omega)) (fun h => byteAt_app (by omega)) ?_ ?_ ?_
  · intro h
    have := byteAt_mid (a := y :: a) (b := b) hx
    rw [hl, h] at this
    exact this
  · intro h
    have := byteAt_mid (a := y :: a) (b := b) hx
    rw [hl, h] at this
    exact this
  · intro h
    have := byteAt_mid (a := y :: a) (b := b) hx
    rw [hl, h] at this
    exact this
theorem pts_split {x : Int} (hx : 0 ≤ x ∧ x < 128) (b : List Int) : ∀ (n : Nat) (a : List Int), a.length ≤ n → pts (a ++ x :: b) = pts a ++ x :: pts b := by
  intro n
  induction n with
  | zero =>
    intro a h
    obtain rfl := List.eq_nil_of_length_eq_zero (show a.length = 0 by omega)
    rw [List.nil_append, pts_ascii hx, pts_nil, List.nil_append]
  | succ n ih =>
    intro a h
    cases a with
    | nil => rw [List.nil_append, pts_ascii hx, pts_nil, List.nil_append]
    | cons y a =>
      have hw := dec_width y a
      have hf := dec_fits y a
      have e : pts (y :: a ++ x :: b) = ((dec (y :: a ++ x :: b)).1 : Int) :: pts ((y :: a ++ x :: b).drop (dec (y :: a ++ x :: b)).2) := pts_cons y (a ++ x :: b)
      rw [e, dec_split y a hx b, pts_cons y a, List.drop_append_of_le_length (by simpa using hf), List.cons_append]
      simp only [List.length_cons] at h
      rw [ih _ (by rw [List.length_drop, List.length_cons]; omega)]
theorem prepStep_any (last c : Int) (h : c ≠ 10) : prepStep last c = prepStep 0 c := by
  unfold prepStep
  rw [if_neg (show ¬ (c = 10 ∧ last = 13) from fun e => h e.1), if_neg (show ¬ (c = 10 ∧ (0 : Int) = 13) from fun e => h e.1)]
theorem prepF_any (last c : Int) (l : List Int) (h : c ≠ 10) : prepF last (c :: l) = prepF 0 (c :: l) := by
  simp only [prepF, prepStep_any last c h]
def prep (b : List Int) : List Int := prepF 0 (pts b)
theorem prep_split {x : Int} (hx : 0 ≤ x ∧ x < 128) (h10 : x ≠ 10) (a b : List Int) : prep (a ++ x :: b) = prep a ++ prep (x :: b) := by
  unfold prep
  rw [pts_split hx b a.length a (Nat.le_refl _), prepF_append, prepF_any _ _ _ h10, pts_ascii hx]
theorem prepStep_plain {last c : Int} (h : 14 ≤ c ∨ c = 9 ∨ c = 10) (hl : last ≠ 13) : prepStep last c = [c] := by
  unfold prepStep
  rw [if_neg (fun e => hl e.2), if_neg (by omega), if_neg (by omega)]
theorem prep_len (b : List Int) : (prep b).length ≤ b.length := Nat.le_trans (prepF_length _ 0) (pts_length b.length b (Nat.le_refl _))
theorem prepare_eq (b : List Int) (hb : Byt b) (hl : b.length ≤ 1000000) : text_Prepare.f b = some (prep b) := by
  unfold text_Prepare.f
  rw [if_pos ⟨fun x hx => by have := hb x hx; omega, by omega⟩]
  rfl
def toksOf (b : List Int) : List S31 := (tks ((prep b).map cp)).map tokS
theorem of_ev (b : List Int) (hb : Byt b) (hl : b.length ≤ 1000000) : Ev (fun k => tapestrierlaw4_Of.f k b) (toksOf b) := by
  have h1 := prep_len b
  obtain ⟨K, hK⟩ := tokens_ev (prep b) (by omega)
  refine ⟨K, fun k hk => ?_⟩
  have g : tok_Tokens.f k (prep b) = some (toksOf b) := hK k hk
  show tapestrierlaw4_Of.f k b = _
  rw [tapestrierlaw4_Of.f, prepare_eq b hb hl, Option.bind_some, g, Option.bind_some]
theorem toksOf_len (b : List Int) : (toksOf b).length ≤ b.length := by
  unfold toksOf
  rw [List.length_map]
  have h1 := tks_len ((prep b).map cp) (At.zero (prep b)).vld
  rw [List.length_map] at h1
  exact Nat.le_trans h1 (prep_len b)
theorem same_loop (t : List S31) (hl : t.length ≤ 1000000) : ∀ (d i : Nat), i + d = t.length → ∀ k, d + 1 ≤ k → tapestrierref1_SameTokens.l0 k t t (i : Int) = some true := by
  intro d
  induction d with
  | zero =>
    intro i hi k hk
    obtain ⟨k, rfl⟩ : ∃ m, k = m + 1 := ⟨k - 1, by omega⟩
    rw [tapestrierref1_SameTokens.l0, if_neg (by omega)]
  | succ d ih =>
    intro i hi k hk
    obtain ⟨k, rfl⟩ : ∃ m, k = m + 1 := ⟨k - 1, by omega⟩
    rw [tapestrierref1_SameTokens.l0, if_pos (by omega), if_pos (by omega), if_pos (by omega), if_neg (by simp), wp i (by omega)]
    exact ih (i + 1) (by omega) k (by omega)
theorem same_ev (t : List S31) (hl : t.length ≤ 1000000) (k : Nat) (hk : t.length + 1 ≤ k) : tapestrierref1_SameTokens.f k t t = some true := by
  unfold tapestrierref1_SameTokens.f
  rw [if_pos rfl]
  exact same_loop t hl t.length 0 (by omega) k hk
theorem esc_cons_ne {c : Int} {s : List Int} (h : c ≠ 92) : esc (c :: s) 0 = false := by
  unfold esc
  apply decide_eq_false
  rw [hd_cons]
  exact fun e => h e.1
theorem wf_u8 {x : Int} (h : (Lit.int .u8 x).wf = true) : 0 ≤ x ∧ x ≤ 255 := by
  simp [Lit.wf, IntKind.min, IntKind.max, IntKind.bits, IntKind.signed] at h
  omega
end Go.Proofs.YtplkkmmojanclaaDoor.Tk
