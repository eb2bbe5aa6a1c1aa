/- Part of the proof; printed or typed in this session; unused declarations and remarks struck by a program (wip/prune.py). -/
import Derived.Test.YtplkkmmojanclaaDoorCMeet3
set_option linter.all false
namespace Go.Proofs.YtplkkmmojanclaaDoor.Tk
open Go.RowKit Go.Proofs.YtplkkmmojanclaaDoor.My Go.Proofs.YtplkkmmojanclaaDoor.Q Go.Proofs.YtplkkmmojanclaaDoorW.PrintWords Go.Proofs.YtplkkmmojanclaaDoorW.PrintLast Go.Proofs.YtplkkmmojanclaaDoorW.PrintMore
def tokS (t : Tok) : S31 := ⟨t.k, strOfNums (utf8 t.t), t.n, t.w, t.c⟩
def flat (t : S31) (p : Int) : Int × ByteArray × Int × Bool × Int × Int := (t.f0, t.f1, t.f2, t.f3, t.f4, p)
theorem strOfNums_nil : strOfNums [] = (⟨#[]⟩ : ByteArray) := rfl
theorem quoted_more (f : Nat) : ∀ (f' : Nat) (q : Int) (s : List Int), s.length ≤ f → s.length ≤ f' → quoted f q s = quoted f' q s := by
  have h0 : ∀ (f : Nat) (q : Int), quoted f q [] = (some [], []) := by
    intro f q
    cases f with
    | zero => rfl
    | succ f => simp [quoted, hd_nil]
  induction f with
  | zero =>
    intro f' q s h _
    obtain rfl := List.eq_nil_of_length_eq_zero (show s.length = 0 by omega)
    rw [h0, h0]
  | succ f ih =>
    intro f' q s h h'
    cases s with
    | nil => rw [h0, h0]
    | cons d s =>
      cases f' with
      | zero => simp at h'
      | succ f' =>
        simp only [List.length_cons] at h h'
        have i1 := ih f' q s (by omega) (by omega)
        have i2 := ih f' q (s.drop 1) (by simp; omega) (by simp; omega)
        have i3 : s ≠ [] → quoted f q (escd s).2 = quoted f' q (escd s).2 := fun hs => by
          have := escd_len hs
          exact ih f' q _ (by omega) (by omega)
        simp only [quoted, List.drop_succ_cons, List.drop_zero, hd_cons, hd_succ, i1, i2]
        by_cases hs : s = []
        · subst hs
          simp [hd_nil]
        · rw [i3 hs]
def qd (q : Int) (s : List Int) : Option (List Int) × List Int := quoted s.length q s
theorem qd_cons (q d : Int) (s : List Int) (hv : AllV (d :: s)) : qd q (d :: s) =
    if d = 10 then (none, d :: s)
    else if d = q then (some [], s)
    else if d ≠ 92 then ((qd q s).1.map (d :: ·), (qd q s).2)
    else if hd s 0 = 10 then qd q (s.drop 1)
    else if s ≠ [] then ((qd q (escd s).2).1.map ((escd s).1 :: ·), (qd q (escd s).2).2)
    else (some [], []) := by
  have hd1 : d ≠ -1 := by have := hv d (by simp); unfold Vld at this; omega
  unfold qd
  simp only [List.length_cons, quoted, List.drop_succ_cons, List.drop_zero, hd_cons, hd_succ]
  rw [if_neg hd1]
  by_cases h1 : d = 10
  · rw [if_pos h1, if_pos h1]
  · rw [if_neg h1, if_neg h1]
    by_cases h2 : d = q
    · rw [if_pos h2, if_pos h2]
    · rw [if_neg h2, if_neg h2]
      by_cases h3 : d ≠ 92
      · rw [if_pos h3, if_pos h3]
      · rw [if_neg h3, if_neg h3]
        by_cases hs : s = []
        · subst hs
          simp [hd_nil, quoted]
        · rw [quoted_more s.length (s.drop 1).length q (s.drop 1) (by simp) (Nat.le_refl _)]
          by_cases h4 : hd s 0 = 10
          · rw [if_pos h4, if_pos h4]
          · rw [if_neg h4, if_neg h4, if_pos hs]
            have := escd_len hs
            rw [quoted_more s.length (escd s).2.length q (escd s).2 (by omega) (Nat.le_refl _)]
            have h5 : hd s 0 ≠ -1 := fun e => hs ((hd_none (fun c hc => hv c (by simp [hc]))).1 e)
            rw [if_pos h5]
theorem qd_ind {M : List Int → Option (List Int) × List Int → Prop} {q : Int}
    (h0 : M [] (some [], []))
    (h1 : ∀ s, M (10 :: s) (none, 10 :: s))
    (h2 : ∀ d s, d ≠ 10 → d = q → M (d :: s) (some [], s))
    (h3 : ∀ d s, d ≠ 10 → d ≠ q → d ≠ 92 → M s (qd q s) → M (d :: s) ((qd q s).1.map (d :: ·), (qd q s).2))
    (h4 : ∀ s, 92 ≠ q → M s (qd q s) → M (92 :: 10 :: s) (qd q s))
    (h5 : ∀ s, 92 ≠ q → s ≠ [] → hd s 0 ≠ 10 → M (escd s).2 (qd q (escd s).2) → M (92 :: s) ((qd q (escd s).2).1.map ((escd s).1 :: ·), (qd q (escd s).2).2))
    (h6 : 92 ≠ q → M [92] (some [], [])) : ∀ (n : Nat) (s : List Int), s.length ≤ n → AllV s → M s (qd q s) := by
  intro n
  induction n with
  | zero =>
    intro s h _
    obtain rfl := List.eq_nil_of_length_eq_zero (show s.length = 0 by omega)
    exact h0
  | succ n ih =>
    intro s h hv
    cases s with
    | nil => exact h0
    | cons d s =>
      have hv' : AllV s := fun c hc => hv c (by simp [hc])
      simp only [List.length_cons] at h
      rw [qd_cons q d s hv]
      by_cases e1 : d = 10
      · subst e1; rw [if_pos rfl]; exact h1 s
      · rw [if_neg e1]
        by_cases e2 : d = q
        · rw [if_pos e2]; exact h2 d s e1 e2
        · rw [if_neg e2]
          by_cases e3 : d ≠ 92
          · rw [if_pos e3]; exact h3 d s e1 e2 e3 (ih s (by omega) hv')
          · rw [if_neg e3]
            obtain rfl : d = 92 := by omega
            by_cases e4 : hd s 0 = 10
            · rw [if_pos e4]
              obtain ⟨r, rfl⟩ := ne_of_hd e4 (by omega)
              simp only [List.length_cons] at h
              exact h4 r e2 (ih r (by omega) (fun c hc => hv' c (by simp [hc])))
            · rw [if_neg e4]
              by_cases e5 : s ≠ []
              · rw [if_pos e5]
                have := escd_len e5
                exact h5 s e2 e5 e4 (ih _ (by omega) (suf_allv (escd_suf s) hv'))
              · rw [if_neg e5]
                have e6 : s = [] := Classical.not_not.1 e5
                subst e6
                exact h6 e2
theorem qd_suf (q : Int) (s : List Int) (hv : AllV s) : (qd q s).2 <:+ s := by
  refine qd_ind (M := fun s r => r.2 <:+ s) List.suffix_rfl ?_ ?_ ?_ ?_ ?_ ?_ s.length s (Nat.le_refl _) hv
  · intro s; exact List.suffix_rfl
  · intro d s _ _; exact List.suffix_cons d s
  · intro d s _ _ _ h; exact h.trans (List.suffix_cons d s)
  · intro s _ h; exact (h.trans (List.suffix_cons 10 s)).trans (List.suffix_cons 92 _)
  · intro s _ _ _ h; exact (h.trans (escd_suf s)).trans (List.suffix_cons 92 s)
  · intro _; exact List.nil_suffix
def qres (acc : List Int) : Option (List Int) → Int → Int × ByteArray × Int × Bool × Int × Int
  | some t, p => (4, strOfNums (utf8 (acc ++ t)), 0, false, 0, p)
  | none, p => (5, (⟨#[]⟩ : ByteArray), 0, false, 0, p)
theorem qres_map (acc : List Int) (c : Int) (o : Option (List Int)) (p : Int) : qres acc (o.map (c :: ·)) p = qres (acc ++ [c]) o p := by
  cases o with
  | none => rfl
  | some t => simp [qres]
theorem quoted_ev {l : List Int} (hl : l.length ≤ 1000000) (q : Int) (hq : q = 34 ∨ q = 39) (s : List Int) (hvs : AllV s) : ∀ (p : Nat) (acc : List Int), At l p s → acc.length ≤ p → AllV acc →
    ∃ p', At l p' (qd q s).2 ∧ Ev (fun k => tok_scanner_quoted.l0 k q acc l p) (qres acc (qd q s).1 (p' : Int)) := by
  refine qd_ind (M := fun s r => ∀ (p : Nat) (acc : List Int), At l p s → acc.length ≤ p → AllV acc →
    ∃ p', At l p' r.2 ∧ Ev (fun k => tok_scanner_quoted.l0 k q acc l p) (qres acc r.1 (p' : Int))) ?_ ?_ ?_ ?_ ?_ ?_ ?_ s.length s (Nat.le_refl _) hvs
  · intro p acc h ha hacc
    have hlen := h.len
    refine ⟨p, h, acc.length + 3, fun k hk => ?_⟩
    obtain ⟨k, rfl⟩ : ∃ m, k = m + 1 := ⟨k - 1, by omega⟩
    have e0 : tok_scanner_at.f l p 0 = some (-1, (p : Int)) := at_eq h hl 0 (by omega)
    show tok_scanner_quoted.l0 (k + 1) q acc l p = _
    rw [tok_scanner_quoted.l0, e0, Option.bind_some]
    dsimp only
    rw [if_neg (by omega), if_pos rfl, bytes_ev acc hacc (by omega) k (by omega), Option.bind_some, qres, List.append_nil]
  · intro s p acc h ha hacc
    refine ⟨p, h, 1, fun k hk => ?_⟩
    obtain ⟨k, rfl⟩ : ∃ m, k = m + 1 := ⟨k - 1, by omega⟩
    have e0 : tok_scanner_at.f l p 0 = some (10, (p : Int)) := at_eq h hl 0 (by omega)
    show tok_scanner_quoted.l0 (k + 1) q acc l p = _
    rw [tok_scanner_quoted.l0, e0, Option.bind_some]
    dsimp only
    rw [if_pos rfl, qres]
  · intro d s h10 hdq p acc h ha hacc
    have hlen := h.len
    simp only [List.length_cons] at hlen
    refine ⟨p + 1, h.cons, acc.length + 3, fun k hk => ?_⟩
    obtain ⟨k, rfl⟩ : ∃ m, k = m + 1 := ⟨k - 1, by omega⟩
    have e0 : tok_scanner_at.f l p 0 = some (d, (p : Int)) := at_eq h hl 0 (by omega)
    show tok_scanner_quoted.l0 (k + 1) q acc l p = _
    rw [tok_scanner_quoted.l0, e0, Option.bind_some]
    dsimp only
    rw [if_neg h10, if_neg (by omega), if_pos hdq, bytes_ev acc hacc (by omega) k (by omega), Option.bind_some, qres, List.append_nil, wp p (by omega)]
  · intro d s h10 hdq h92 ih p acc h ha hacc
    have hlen := h.len
    have hv := h.vld d (by simp)
    simp only [List.length_cons] at hlen
    obtain ⟨p', h1, K, h2⟩ := ih (p + 1) (acc ++ [d]) h.cons (by simp; omega) (allv_snoc hacc hv)
    refine ⟨p', h1, K + 1, fun k hk => ?_⟩
    obtain ⟨k, rfl⟩ : ∃ m, k = m + 1 := ⟨k - 1, by omega⟩
    have e0 : tok_scanner_at.f l p 0 = some (d, (p : Int)) := at_eq h hl 0 (by omega)
    have e2 : tok_scanner_quoted.l0 k q (acc ++ [d]) l ((p + 1 : Nat) : Int) = some (qres (acc ++ [d]) (qd q s).1 (p' : Int)) := h2 k (by omega)
    unfold Vld at hv
    show tok_scanner_quoted.l0 (k + 1) q acc l p = _
    rw [tok_scanner_quoted.l0, e0, Option.bind_some]
    dsimp only
    rw [if_neg h10, if_neg (by omega), if_neg hdq, if_neg h92, if_pos (by omega), wp p (by omega), qres_map]
    exact e2
  · intro s hq92 ih p acc h ha hacc
    have hlen := h.len
    simp only [List.length_cons] at hlen
    obtain ⟨p', h1, K, h2⟩ := ih (p + 2) acc (h.cons.cons) (by omega) hacc
    refine ⟨p', h1, K + 1, fun k hk => ?_⟩
    obtain ⟨k, rfl⟩ : ∃ m, k = m + 1 := ⟨k - 1, by omega⟩
    have e0 : tok_scanner_at.f l p 0 = some (92, (p : Int)) := at_eq h hl 0 (by omega)
    have e1 : tok_scanner_at.f l ((p + 1 : Nat) : Int) 0 = some (10, ((p + 1 : Nat) : Int)) := at_eq h.cons hl 0 (by omega)
    have e2 : tok_scanner_quoted.l0 k q acc l ((p + 1 + 1 : Nat) : Int) = some (qres acc (qd q s).1 (p' : Int)) := h2 k (by omega)
    show tok_scanner_quoted.l0 (k + 1) q acc l p = _
    rw [tok_scanner_quoted.l0, e0, Option.bind_some]
    dsimp only
    rw [if_neg (by omega), if_neg (by omega), if_neg hq92, if_pos rfl, wp p (by omega), e1, Option.bind_some]
    dsimp only
    rw [if_pos rfl, wp (p + 1) (by omega)]
    exact e2
  · intro s hq92 hs h10 ih p acc h ha hacc
    have hlen := h.len
    have hv' : AllV s := fun c hc => h.vld c (by simp [hc])
    simp only [List.length_cons] at hlen
    obtain ⟨r, hr, K, hK⟩ := escaped_ev h.cons hl hs
    have hrl := hr.len
    have hel := escd_len hs
    obtain ⟨p', h1, K', h2⟩ := ih r (acc ++ [(escd s).1]) hr (by simp; omega) (allv_snoc hacc (escd_vld hv' hs))
    refine ⟨p', h1, max K K' + 1, fun k hk => ?_⟩
    obtain ⟨k, rfl⟩ : ∃ m, k = m + 1 := ⟨k - 1, by omega⟩
    have e0 : tok_scanner_at.f l p 0 = some (92, (p : Int)) := at_eq h hl 0 (by omega)
    have e1 : tok_scanner_at.f l ((p + 1 : Nat) : Int) 0 = some (hd s 0, ((p + 1 : Nat) : Int)) := at_eq h.cons hl 0 (by omega)
    have e3 : tok_scanner_escaped.f k l ((p + 1 : Nat) : Int) = some ((escd s).1, (r : Int)) := hK k (by omega)
    have e2 : tok_scanner_quoted.l0 k q (acc ++ [(escd s).1]) l r = some (qres (acc ++ [(escd s).1]) (qd q (escd s).2).1 (p' : Int)) := h2 k (by omega)
    have hne : hd s 0 ≠ -1 := fun e => hs ((hd_none hv').1 e)
    show tok_scanner_quoted.l0 (k + 1) q acc l p = _
    rw [tok_scanner_quoted.l0, e0, Option.bind_some]
    dsimp only
    rw [if_neg (by omega), if_neg (by omega), if_neg hq92, if_pos rfl, wp p (by omega), e1, Option.bind_some]
    dsimp only
    rw [if_neg h10, e1, Option.bind_some]
    dsimp only
    rw [if_neg hne, e3, Option.bind_some]
    dsimp only
    rw [if_pos (by omega), qres_map]
    exact e2
  · intro hq92 p acc h ha hacc
    have hlen := h.len
    simp only [List.length_cons, List.length_nil] at hlen
    refine ⟨p + 1, h.cons, acc.length + 4, fun k hk => ?_⟩
    obtain ⟨k, rfl⟩ : ∃ m, k = m + 1 := ⟨k - 1, by omega⟩
    have e0 : tok_scanner_at.f l p 0 = some (92, (p : Int)) := at_eq h hl 0 (by omega)
    have e1 : tok_scanner_at.f l ((p + 1 : Nat) : Int) 0 = some (-1, ((p + 1 : Nat) : Int)) := at_eq h.cons hl 0 (by omega)
    show tok_scanner_quoted.l0 (k + 1) q acc l p = _
    rw [tok_scanner_quoted.l0, e0, Option.bind_some]
    dsimp only
    rw [if_neg (by omega), if_neg (by omega), if_neg hq92, if_pos rfl, wp p (by omega), e1, Option.bind_some]
    dsimp only
    rw [if_neg (by omega), e1, Option.bind_some]
    dsimp only
    rw [if_pos rfl]
    obtain ⟨k, rfl⟩ : ∃ m, k = m + 1 := ⟨k - 1, by omega⟩
    rw [tok_scanner_quoted.l0, e1, Option.bind_some]
    dsimp only
    rw [if_neg (by omega), if_pos rfl, bytes_ev acc hacc (by omega) k (by omega), Option.bind_some, qres, List.append_nil]
theorem str_eqn (c : Int) (s : List Int) : str (c :: s) = (strTok (qd c s).1, (qd c s).2) := by
  unfold str qd
  rw [hd_cons, List.drop_succ_cons, List.drop_zero, quoted_more (c :: s).length s.length c s (by simp) (Nat.le_refl _)]
theorem flat_str (o : Option (List Int)) (p : Int) : flat (tokS (strTok o)) p = qres [] o p := by
  cases o with
  | none => rfl
  | some t => rfl
theorem str_ev {l : List Int} {p : Nat} {c : Int} {s : List Int} (h : At l p (c :: s)) (hl : l.length ≤ 1000000) (hc : c = 34 ∨ c = 39) :
    ∃ p', At l p' (str (c :: s)).2 ∧ Ev (fun k => tok_scanner_quoted.f k l p) (flat (tokS (str (c :: s)).1) (p' : Int)) := by
  have hlen := h.len
  simp only [List.length_cons] at hlen
  obtain ⟨p', h1, K, h2⟩ := quoted_ev hl c hc s (fun d hd => h.vld d (by simp [hd])) (p + 1) [] h.cons (by simp) (fun c hc => by cases hc)
  rw [str_eqn]
  dsimp only
  refine ⟨p', h1, K, fun k hk => ?_⟩
  have e0 : tok_scanner_at.f l p 0 = some (c, (p : Int)) := at_eq h hl 0 (by omega)
  have e2 : tok_scanner_quoted.l0 k c [] l ((p + 1 : Nat) : Int) = some (qres [] (qd c s).1 (p' : Int)) := h2 k hk
  show tok_scanner_quoted.f k l p = _
  rw [tok_scanner_quoted.f, e0, Option.bind_some]
  dsimp only
  rw [wp p (by omega), e2, flat_str]
theorem figs_ev {l : List Int} (hl : l.length ≤ 1000000) : ∀ (s : List Int) (p : Nat) (acc : List Int), At l p s → acc.length ≤ p + 10 →
    ∃ p', At l p' (s.dropWhile isD) ∧ Ev (fun k => tok_scanner_figures.f k l p acc) (acc ++ s.takeWhile isD, (p' : Int)) := by
  intro s
  induction s with
  | nil =>
    intro p acc h ha
    refine ⟨p, h, 1, fun k hk => ?_⟩
    obtain ⟨k, rfl⟩ : ∃ m, k = m + 1 := ⟨k - 1, by omega⟩
    have e0 : tok_scanner_at.f l p 0 = some (-1, (p : Int)) := at_eq h hl 0 (by omega)
    show tok_scanner_figures.l0 (k + 1) acc l p = _
    rw [tok_scanner_figures.l0, e0, Option.bind_some]
    dsimp only
    rw [digit_eq, Option.bind_some, show isD (-1) = false from rfl, if_neg Bool.false_ne_true, List.takeWhile_nil, List.append_nil]
  | cons d s ih =>
    intro p acc h ha
    have hlen := h.len
    simp only [List.length_cons] at hlen
    have e0 : tok_scanner_at.f l p 0 = some (d, (p : Int)) := at_eq h hl 0 (by omega)
    cases hd1 : isD d
    · rw [List.dropWhile_cons_of_neg (by rw [hd1]; exact Bool.false_ne_true), List.takeWhile_cons_of_neg (by rw [hd1]; exact Bool.false_ne_true)]
      refine ⟨p, h, 1, fun k hk => ?_⟩
      obtain ⟨k, rfl⟩ : ∃ m, k = m + 1 := ⟨k - 1, by omega⟩
      show tok_scanner_figures.l0 (k + 1) acc l p = _
      rw [tok_scanner_figures.l0, e0, Option.bind_some]
      dsimp only
      rw [digit_eq, Option.bind_some, hd1, if_neg Bool.false_ne_true, List.append_nil]
    · rw [List.dropWhile_cons_of_pos hd1, List.takeWhile_cons_of_pos hd1]
      obtain ⟨p', h1, K, h2⟩ := ih (p + 1) (acc ++ [d]) h.cons (by simp; omega)
      have hdv := of_decide_eq_true hd1
      refine ⟨p', h1, K + 1, fun k hk => ?_⟩
      obtain ⟨k, rfl⟩ : ∃ m, k = m + 1 := ⟨k - 1, by omega⟩
      have e2 : tok_scanner_figures.l0 k (acc ++ [d]) l ((p + 1 : Nat) : Int) = some ((acc ++ [d]) ++ s.takeWhile isD, (p' : Int)) := h2 k (by omega)
      rw [List.append_assoc, List.singleton_append] at e2
      show tok_scanner_figures.l0 (k + 1) acc l p = _
      rw [tok_scanner_figures.l0, e0, Option.bind_some]
      dsimp only
      rw [digit_eq, Option.bind_some, hd1, if_pos rfl, e0, Option.bind_some]
      dsimp only
      rw [if_pos (by omega), wp p (by omega), show d % 256 = d by omega]
      exact e2
end Go.Proofs.YtplkkmmojanclaaDoor.Tk
