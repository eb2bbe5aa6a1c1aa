/- Part of the proof; printed or typed in this session; unused declarations and remarks struck by a program (wip/prune.py). -/
import Derived.Test.YtplkkmmojanclaaDoorCKit
set_option linter.all false
namespace Go.Proofs.YtplkkmmojanclaaDoor.Tk
open Go.RowKit Go.Proofs.YtplkkmmojanclaaDoor.My Go.Proofs.YtplkkmmojanclaaDoor.Q Go.Proofs.YtplkkmmojanclaaDoorW.PrintWords Go.Proofs.YtplkkmmojanclaaDoorW.PrintLast Go.Proofs.YtplkkmmojanclaaDoorW.PrintMore
def Cln (s : List Int) : Prop := ∀ d ∈ s, d ≠ 34 ∧ d ≠ 39 ∧ d ≠ 92 ∧ d ≠ 47
theorem Cln.suf {r s : List Int} (h : r <:+ s) (hc : Cln s) : Cln r := fun d hd => hc d (h.subset hd)
theorem Cln.tail {d : Int} {s : List Int} (hc : Cln (d :: s)) : Cln s := fun e he => hc e (by simp [he])
section
variable {c : Int} {r : List Int}
theorem hd_app {A : List Int} {k : Nat} (h : k < A.length) : hd (A ++ c :: r) k = hd A k := by
  unfold hd
  rw [List.getD_eq_getElem?_getD, List.getD_eq_getElem?_getD, List.getElem?_append_left h]
theorem hd_app_len (A : List Int) : hd (A ++ c :: r) A.length = c := by
  unfold hd
  rw [List.getD_eq_getElem?_getD, List.getElem?_append_right (Nat.le_refl _), Nat.sub_self]
  rfl
theorem hd_len (A : List Int) : hd A A.length = -1 := by
  unfold hd
  rw [List.getD_eq_getElem?_getD, List.getElem?_eq_none (Nat.le_refl _)]
  rfl
theorem hd_agree {A : List Int} (P : Int → Bool) (hP : P c = P (-1)) {k : Nat} (h : k ≤ A.length) : P (hd (A ++ c :: r) k) = P (hd A k) := by
  by_cases hk : k < A.length
  · rw [hd_app hk]
  · obtain rfl : k = A.length := by omega
    rw [hd_app_len, hd_len, hP]
theorem hd_eq_agree {A : List Int} {v : Int} (hv : c ≠ v) (hv1 : v ≠ -1) {k : Nat} (h : k ≤ A.length) : (hd (A ++ c :: r) k = v) = (hd A k = v) := by
  by_cases hk : k < A.length
  · rw [hd_app hk]
  · obtain rfl : k = A.length := by omega
    rw [hd_app_len, hd_len]
    exact propext ⟨fun e => absurd e hv, fun e => absurd e.symm hv1⟩
variable (hc : c = 47 ∨ c = 59)
include hc
theorem esc_off {A : List Int} (hA : Cln A) {k : Nat} (h : k ≤ A.length) : esc (A ++ c :: r) k = false := by
  unfold esc
  apply decide_eq_false
  intro e
  by_cases hk : k < A.length
  · have h1 := e.1
    rw [hd_app hk] at h1
    unfold hd at h1
    rw [List.getD_eq_getElem?_getD, List.getElem?_eq_getElem hk] at h1
    exact (hA A[k] (List.getElem_mem hk)).2.2.1 h1
  · obtain rfl : k = A.length := by omega
    have h1 := e.1
    rw [hd_app_len] at h1
    omega
omit hc in
theorem esc_off' {A : List Int} (hA : Cln A) (k : Nat) : esc A k = false := by
  unfold esc
  apply decide_eq_false
  intro e
  have h1 := e.1
  by_cases hk : k < A.length
  · unfold hd at h1
    rw [List.getD_eq_getElem?_getD, List.getElem?_eq_getElem hk] at h1
    exact (hA A[k] (List.getElem_mem hk)).2.2.1 h1
  · unfold hd at h1
    rw [List.getD_eq_getElem?_getD, List.getElem?_eq_none (by omega)] at h1
    simp at h1
theorem c_S : isS c = isS (-1) := by rcases hc with rfl | rfl <;> rfl
theorem c_D : isD c = isD (-1) := by rcases hc with rfl | rfl <;> rfl
theorem c_P : isP c = isP (-1) := by rcases hc with rfl | rfl <;> rfl
theorem c_W : isW c = isW (-1) := by rcases hc with rfl | rfl <;> rfl
theorem nam_app {A : List Int} (hA : Cln A) {k : Nat} (h : k ≤ A.length) : nam (A ++ c :: r) k = nam A k := by
  unfold nam
  by_cases hk : k < A.length
  · rw [hd_app hk, esc_off hc hA h, esc_off hc hA (show k + 1 ≤ A.length by omega), esc_off' hA k, esc_off' hA (k + 1), hd_agree isS (c_S hc) (show k + 1 ≤ A.length by omega)]
    have e := hd_eq_agree (c := c) (r := r) (A := A) (v := 45) (by omega) (by omega) (show k + 1 ≤ A.length by omega)
    simp only [e]
  · obtain rfl : k = A.length := by omega
    rw [hd_app_len, hd_len, if_neg (by omega), if_neg (by omega), esc_off hc hA h, esc_off' hA, c_S hc]
theorem numAt_app {A : List Int} {k : Nat} (h : k ≤ A.length) : numAt (A ++ c :: r) k = numAt A k := by
  unfold numAt
  by_cases hk : k < A.length
  · rw [hd_app hk, hd_agree isD (c_D hc) (show k + 1 ≤ A.length by omega)]
  · obtain rfl : k = A.length := by omega
    rw [hd_app_len, hd_len, c_D hc, decide_eq_false (show ¬ c = 46 by omega), show decide ((-1 : Int) = 46) = false from rfl, Bool.false_and, Bool.false_and]
theorem num_app {A : List Int} (hne : A ≠ []) : num (A ++ c :: r) = num A := by
  have hl := List.length_pos_iff.2 hne
  have e : sgn (A ++ c :: r) = sgn A := by unfold sgn; rw [hd_app hl]
  unfold num
  rw [e]
  cases sgn A
  · exact numAt_app hc (Nat.zero_le _)
  · exact numAt_app hc hl
theorem name_pre : ∀ {A : List Int}, Cln A → name (A ++ c :: r) = ((name A).1, (name A).2 ++ c :: r)
  | [], hA => by
    have e1 : esc (c :: r) 0 = false := esc_cons_ne (by omega)
    have e2 : isP (hd (c :: r) 0) = false := by rw [hd_cons, c_P hc]; rfl
    rw [List.nil_append, name_eqn, e1, if_neg Bool.false_ne_true, e2, if_neg Bool.false_ne_true]
    rfl
  | d :: A, hA => by
    have e1 : esc (d :: A ++ c :: r) 0 = false := esc_off hc hA (by simp)
    have e2 : esc (d :: A) 0 = false := esc_off' hA 0
    have ih := name_pre (A := A) hA.tail
    rw [name_eqn, e1, if_neg Bool.false_ne_true, name_eqn (d :: A), e2, if_neg Bool.false_ne_true, List.cons_append, hd_cons, hd_cons, List.drop_succ_cons, List.drop_zero, List.drop_succ_cons, List.drop_zero]
    cases isP d
    · rw [if_neg Bool.false_ne_true, if_neg Bool.false_ne_true]
      rfl
    · rw [if_pos rfl, if_pos rfl, ih]
theorem dropW_app : ∀ A : List Int, (A ++ c :: r).dropWhile isW = A.dropWhile isW ++ c :: r
  | [] => by
    rw [List.nil_append, List.dropWhile_cons_of_neg (by rw [c_W hc]; exact Bool.false_ne_true)]
    rfl
  | d :: A => by
    rw [List.cons_append]
    cases h : isW d
    · rw [List.dropWhile_cons_of_neg (by rw [h]; exact Bool.false_ne_true), List.dropWhile_cons_of_neg (by rw [h]; exact Bool.false_ne_true), List.cons_append]
    · rw [List.dropWhile_cons_of_pos h, List.dropWhile_cons_of_pos h, dropW_app A]
theorem dropD_app : ∀ A : List Int, (A ++ c :: r).dropWhile isD = A.dropWhile isD ++ c :: r
  | [] => by
    rw [List.nil_append, List.dropWhile_cons_of_neg (by rw [c_D hc]; exact Bool.false_ne_true)]
    rfl
  | d :: A => by
    rw [List.cons_append]
    cases h : isD d
    · rw [List.dropWhile_cons_of_neg (by rw [h]; exact Bool.false_ne_true), List.dropWhile_cons_of_neg (by rw [h]; exact Bool.false_ne_true), List.cons_append]
    · rw [List.dropWhile_cons_of_pos h, List.dropWhile_cons_of_pos h, dropD_app A]
theorem takeD_app : ∀ A : List Int, (A ++ c :: r).takeWhile isD = A.takeWhile isD
  | [] => by
    rw [List.nil_append, List.takeWhile_cons_of_neg (by rw [c_D hc]; exact Bool.false_ne_true)]
    rfl
  | d :: A => by
    rw [List.cons_append]
    cases h : isD d
    · rw [List.takeWhile_cons_of_neg (by rw [h]; exact Bool.false_ne_true), List.takeWhile_cons_of_neg (by rw [h]; exact Bool.false_ne_true)]
    · rw [List.takeWhile_cons_of_pos h, List.takeWhile_cons_of_pos h, takeD_app A]
omit hc in
theorem drop1_app {A : List Int} (h : A ≠ []) : (A ++ c :: r).drop 1 = A.drop 1 ++ c :: r := by
  cases A with
  | nil => exact absurd rfl h
  | cons d A => rfl
theorem unit_app (n : Int) (w : Bool) {A : List Int} (hA : Cln A) : unit n w (A ++ c :: r) = ((unit n w A).1, (unit n w A).2 ++ c :: r) := by
  unfold unit
  rw [nam_app hc hA (Nat.zero_le _)]
  cases nam A 0
  · rw [if_neg Bool.false_ne_true, if_neg Bool.false_ne_true]
    have e := hd_eq_agree (c := c) (r := r) (A := A) (v := 37) (by omega) (by omega) (Nat.zero_le _)
    by_cases h : hd A 0 = 37
    · rw [if_pos (e.mpr h), if_pos h, drop1_app (fun e => by rw [e, hd_nil] at h; omega)]
    · rw [if_neg (fun h' => h (e.mp h')), if_neg h]
  · rw [if_pos rfl, if_pos rfl, name_pre hc hA]
theorem amt_app (neg : Bool) {A : List Int} (hA : Cln A) : amt neg (A ++ c :: r) = ((amt neg A).1, (amt neg A).2 ++ c :: r) := by
  have hD : Cln (A.dropWhile isD) := hA.suf (List.dropWhile_suffix isD)
  unfold amt
  rw [dropD_app hc, takeD_app hc]
  have e46 := hd_eq_agree (c := c) (r := r) (A := A.dropWhile isD) (v := 46) (by omega) (by omega) (Nat.zero_le _)
  by_cases h46 : hd (A.dropWhile isD) 0 = 46
  · have hne : A.dropWhile isD ≠ [] := fun e => by rw [e, hd_nil] at h46; omega
    have eD := hd_agree (r := r) isD (c_D hc) (A := A.dropWhile isD) (k := 1) (List.length_pos_iff.2 hne)
    by_cases hd1 : isD (hd (A.dropWhile isD) 1) = false
    · rw [if_pos (.inr (eD.trans hd1)), if_pos (.inr hd1), unit_app hc _ _ hD]
    · rw [if_neg (fun h => h.elim (fun h => h (e46.mpr h46)) (fun h => hd1 (eD.symm.trans h))), if_neg (fun h => h.elim (fun h => h h46) hd1), drop1_app hne, takeD_app hc, dropD_app hc]
      exact unit_app hc _ _ ((hD.suf (drop_suf 1 _)).suf (List.dropWhile_suffix isD))
  · rw [if_pos (.inl (fun h => h46 (e46.mp h))), if_pos (.inl h46), unit_app hc _ _ hD]
theorem amount_app {A : List Int} (hA : Cln A) (hne : A ≠ []) : amount (A ++ c :: r) = ((amount A).1, (amount A).2 ++ c :: r) := by
  have hl := List.length_pos_iff.2 hne
  have e : sgn (A ++ c :: r) = sgn A := by unfold sgn; rw [hd_app hl]
  unfold amount
  rw [e, hd_app hl]
  cases sgn A
  · rw [if_neg Bool.false_ne_true, if_neg Bool.false_ne_true]; exact amt_app hc _ hA
  · rw [if_pos rfl, if_pos rfl, drop1_app hne]; exact amt_app hc _ (hA.suf (drop_suf 1 _))
theorem word_pre {A : List Int} (hA : Cln A) : word (A ++ c :: r) = ((word A).1, (word A).2 ++ c :: r) := by
  unfold word
  rw [name_pre hc hA]
  dsimp only
  have e := hd_eq_agree (c := c) (r := r) (A := (name A).2) (v := 40) (by omega) (by omega) (Nat.zero_le _)
  by_cases h : hd (name A).2 0 = 40
  · rw [if_pos (e.mpr h), if_pos h, drop1_app (fun e => by rw [e, hd_nil] at h; omega)]
  · rw [if_neg (fun h' => h (e.mp h')), if_neg h]
theorem tok_app {A : List Int} (hA : Cln A) (hne : A ≠ []) : tok (A ++ c :: r) = ((tok A).1, (tok A).2 ++ c :: r) := by
  have hl := List.length_pos_iff.2 hne
  have h0 : hd (A ++ c :: r) 0 = hd A 0 := hd_app hl
  have hq : ¬ (hd A 0 = 34 ∨ hd A 0 = 39) := by
    cases A with
    | nil => exact absurd rfl hne
    | cons d A => have := hA d (by simp); rw [hd_cons]; omega
  rw [tok_eqn, tok_eqn A, h0]
  cases isW (hd A 0)
  · rw [if_neg Bool.false_ne_true, if_neg Bool.false_ne_true, if_neg hq, if_neg hq, hd_agree isP (c_P hc) (show 1 ≤ A.length from hl), esc_off hc hA (show 1 ≤ A.length from hl), esc_off' hA 1]
    generalize (decide (hd A 0 = 35) && (isP (hd A 1) || false)) = b
    unfold tok2
    cases b
    · rw [if_neg Bool.false_ne_true, if_neg Bool.false_ne_true, num_app hc hne]
      cases num A
      · rw [if_neg Bool.false_ne_true, if_neg Bool.false_ne_true, h0, nam_app hc hA (show 1 ≤ A.length from hl)]
        generalize (decide (hd A 0 = 64) && nam A 1) = b
        unfold tok3
        cases b
        · rw [if_neg Bool.false_ne_true, if_neg Bool.false_ne_true, nam_app hc hA (Nat.zero_le _)]
          cases nam A 0
          · rw [if_neg Bool.false_ne_true, if_neg Bool.false_ne_true]
            unfold sign
            rw [h0, drop1_app hne]
          · rw [if_pos rfl, if_pos rfl]
            exact word_pre hc hA
        · rw [if_pos rfl, if_pos rfl, drop1_app hne, name_pre hc (hA.suf (drop_suf 1 _))]
      · rw [if_pos rfl, if_pos rfl]
        exact amount_app hc hA hne
    · rw [if_pos rfl, if_pos rfl, drop1_app hne, name_pre hc (hA.suf (drop_suf 1 _))]
  · rw [if_pos rfl, if_pos rfl, dropW_app hc]
theorem tks_split : ∀ (n : Nat) (A : List Int), A.length ≤ n → Cln A → AllV (A ++ c :: r) → tks (A ++ c :: r) = tks A ++ tks (c :: r) := by
  intro n
  induction n with
  | zero =>
    intro A h _ _
    obtain rfl := List.eq_nil_of_length_eq_zero (show A.length = 0 by omega)
    rw [tks_nil, List.nil_append, List.nil_append]
  | succ n ih =>
    intro A h hA hv
    by_cases hne : A = []
    · subst hne
      rw [tks_nil, List.nil_append, List.nil_append]
    · have hl := List.length_pos_iff.2 hne
      have hvA : AllV A := fun d hd => hv d (List.mem_append_left _ hd)
      have h47 : hd A 0 ≠ 47 := by
        cases A with
        | nil => exact absurd rfl hne
        | cons d A => rw [hd_cons]; exact (hA d (by simp)).2.2.2
      have hlt := tok_lt hvA hne
      have hsuf := tok_suf hvA
      rw [tks_tok hv (fun e => hne (List.append_eq_nil_iff.1 e).1) (by rw [hd_app hl]; exact fun e => h47 e.1), tks_tok hvA hne (fun e => h47 e.1), tok_app hc hA hne]
      dsimp only
      rw [ih _ (by omega) (hA.suf hsuf) (fun d hd => by
        rcases List.mem_append.1 hd with hd | hd
        · exact suf_allv hsuf hvA d hd
        · exact hv d (List.mem_append_right _ hd)), List.cons_append]
end
theorem decodeN_small (n b0 b1 b2 b3 : Nat) (h : (Lib.decodeN n b0 b1 b2 b3).1 < 128) : (Lib.decodeN n b0 b1 b2 b3).1 = b0 := by
  revert h
  unfold Lib.decodeN
  repeat' split
  all_goals first | (intro _; rfl) | (simp only; omega)
theorem pts_mem (n : Nat) : ∀ (l : List Int), l.length ≤ n → Byt l → ∀ c ∈ pts l, c < 128 → c ∈ l := by
  induction n with
  | zero =>
    intro l h _ c hc _
    obtain rfl := List.eq_nil_of_length_eq_zero (show l.length = 0 by omega)
    cases hc
  | succ n ih =>
    intro l h hb c hc h128
    cases l with
    | nil => cases hc
    | cons x l =>
      rw [pts_cons] at hc
      rcases List.mem_cons.1 hc with rfl | hc
      · have hx := hb x (by simp)
        have e : (dec (x :: l)).1 = byteAt (x :: l) 0 := by
          rw [dec_eq] at h128 ⊢
          exact decodeN_small _ _ _ _ _ (by omega)
        rw [e, byteAt_lt (by simp)]
        simp only [List.getElem_cons_zero]
        rw [u8_nat hx]
        simp
      · have hw := dec_width x l
        have := ih ((x :: l).drop (dec (x :: l)).2) (by simp only [List.length_drop, List.length_cons] at *; omega) (fun d hd => hb d (List.mem_of_mem_drop hd)) c hc h128
        exact List.mem_of_mem_drop this
theorem prepF_mem : ∀ (l : List Int) (last : Int), ∀ c ∈ prepF last l, c = 10 ∨ c = 65533 ∨ c ∈ l
  | [], _, c, hc => by cases hc
  | d :: l, last, c, hc => by
    rw [prepF] at hc
    rcases List.mem_append.1 hc with hc | hc
    · unfold prepStep at hc
      split at hc
      · cases hc
      · split at hc
        · left; simpa using hc
        · split at hc
          · right; left; simpa using hc
          · right; right; simp at hc; simp [hc]
    · rcases prepF_mem l d c hc with h | h | h
      · exact .inl h
      · exact .inr (.inl h)
      · exact .inr (.inr (by simp [h]))
theorem pts_nonneg (n : Nat) : ∀ (l : List Int), l.length ≤ n → ∀ c ∈ pts l, 0 ≤ c := by
  induction n with
  | zero =>
    intro l h c hc
    obtain rfl := List.eq_nil_of_length_eq_zero (show l.length = 0 by omega)
    cases hc
  | succ n ih =>
    intro l h c hc
    cases l with
    | nil => cases hc
    | cons x l =>
      rw [pts_cons] at hc
      have hw := dec_width x l
      rcases List.mem_cons.1 hc with rfl | hc
      · omega
      · exact ih _ (by simp only [List.length_drop, List.length_cons] at *; omega) c hc
theorem prep_cp_mem {b : List Int} (hb : Byt b) {c : Int} (hc : c ∈ (prep b).map cp) (h1 : c ≠ 10) (h2 : c < 128) : c ∈ b := by
  obtain ⟨d, hd, rfl⟩ := List.mem_map.1 hc
  have hd10 : d ≠ 10 := fun e => h1 (by rw [e]; rfl)
  rcases prepF_mem _ _ d hd with h | h | h
  · exact absurd h hd10
  · rw [h] at h2
    exact absurd h2 (by decide)
  · have hn := pts_nonneg b.length b (Nat.le_refl _) d h
    have hcp : cp d = d ∨ cp d = 65533 := by unfold cp; split <;> simp
    rcases hcp with e | e
    · rw [e] at h2 ⊢
      exact pts_mem b.length b (Nat.le_refl _) hb d h h2
    · rw [e] at h2
      omega
theorem cln_prep {a : List Int} (hb : Byt a) (ha : ∀ d ∈ a, d ≠ 34 ∧ d ≠ 39 ∧ d ≠ 92 ∧ d ≠ 47) : Cln ((prep a).map cp) := fun d hd => by
  have h34 := fun e : d = 34 => (ha d (prep_cp_mem hb hd (by omega) (by omega))).1 e
  have h39 := fun e : d = 39 => (ha d (prep_cp_mem hb hd (by omega) (by omega))).2.1 e
  have h92 := fun e : d = 92 => (ha d (prep_cp_mem hb hd (by omega) (by omega))).2.2.1 e
  have h47 := fun e : d = 47 => (ha d (prep_cp_mem hb hd (by omega) (by omega))).2.2.2 e
  exact ⟨h34, h39, h92, h47⟩
theorem prepF_zero (last : Int) (h : last ≠ 13) (l : List Int) : prepF last l = prepF 0 l := by
  cases l with
  | nil => rfl
  | cons c l =>
    have e : prepStep last c = prepStep 0 c := by
      unfold prepStep
      rw [if_neg (show ¬ (c = 10 ∧ last = 13) from fun e => h e.2), if_neg (show ¬ (c = 10 ∧ (0 : Int) = 13) from fun e => by omega)]
    rw [prepF, prepF, e]
theorem prep_cons {x : Int} (hx : 14 ≤ x ∨ x = 9) (h128 : x < 128) (b : List Int) : prep (x :: b) = x :: prep b := by
  unfold prep
  rw [pts_ascii (by omega), prepF, prepStep_plain (by omega) (by omega), prepF_zero x (by omega)]
  rfl
end Go.Proofs.YtplkkmmojanclaaDoor.Tk
