/- Part of the proof; printed or typed in this session; unused declarations and remarks struck by a program (wip/prune.py). -/
import Derived.Test.YtplkkmmojanclaaDoorCMeet2
set_option linter.all false
namespace Go.Proofs.YtplkkmmojanclaaDoor.Tk
open Go.RowKit Go.Proofs.YtplkkmmojanclaaDoor.My Go.Proofs.YtplkkmmojanclaaDoor.Q Go.Proofs.YtplkkmmojanclaaDoorW.PrintWords Go.Proofs.YtplkkmmojanclaaDoorW.PrintLast Go.Proofs.YtplkkmmojanclaaDoorW.PrintMore
theorem allv_snoc {s : List Int} {c : Int} (h : AllV s) (hc : Vld c) : AllV (s ++ [c]) := fun d hd => by
  rcases List.mem_append.1 hd with hd | hd
  · exact h d hd
  · rw [List.mem_singleton.1 hd]; exact hc
theorem hexes_len (k : Nat) : ∀ (n : Int) (s : List Int), (hexes k n s).2.length ≤ s.length := by
  induction k with
  | zero => intro n s; simp [hexes]
  | succ k ih =>
    intro n s
    simp only [hexes]
    split
    · simp
    · have := ih (n * 16 + hex (hd s 0)) (s.drop 1)
      simp only [List.length_drop] at *
      omega
theorem hexes_nonneg (k : Nat) : ∀ (n : Int) (s : List Int), 0 ≤ n → 0 ≤ (hexes k n s).1 := by
  induction k with
  | zero => intro n s h; simpa [hexes] using h
  | succ k ih =>
    intro n s h
    simp only [hexes]
    split
    · exact h
    · next hx =>
      have := (hex_bound (hd s 0)).resolve_left hx
      exact ih _ _ (by omega)
theorem hexes_lt {s : List Int} {k : Nat} {n : Int} (h : hex (hd s 0) ≠ -1) : (hexes (k + 1) n s).2.length < s.length := by
  simp only [hexes, if_neg h]
  have := hexes_len k (n * 16 + hex (hd s 0)) (s.drop 1)
  cases s with
  | nil => rw [hd_nil] at h; exact absurd hex_nil h
  | cons d s => simp only [List.length_cons, List.drop_succ_cons, List.drop_zero] at *; omega
theorem fin_len (q : Int × List Int) : (fin q).2.length ≤ q.2.length := by
  unfold fin
  dsimp only
  split <;> simp
theorem fin_vld (q : Int × List Int) (h : 0 ≤ q.1) : Vld (fin q).1 := by
  unfold fin Vld
  dsimp only
  split <;> omega
theorem escd_len {s : List Int} (hs : s ≠ []) : (escd s).2.length < s.length := by
  rw [escd_eq]
  split
  · cases s with
    | nil => exact absurd rfl hs
    | cons d s => simp
  · next h => exact Nat.lt_of_le_of_lt (fin_len _) (hexes_lt h)
theorem escd_vld {s : List Int} (hv : AllV s) (hs : s ≠ []) : Vld (escd s).1 := by
  rw [escd_eq]
  split
  · cases s with
    | nil => exact absurd rfl hs
    | cons d s => exact hv d (by simp)
  · exact fin_vld _ (hexes_nonneg _ _ _ (by omega))
theorem esc_cons {s : List Int} (h : esc s 0 = true) : ∃ s', s = 92 :: s' ∧ s' ≠ [] ∧ hd s' 0 ≠ 10 := by
  unfold esc at h
  have h' := of_decide_eq_true h
  obtain ⟨s', rfl⟩ := ne_of_hd h'.1 (by omega)
  rw [hd_succ] at h'
  refine ⟨s', rfl, fun e => ?_, h'.2.1⟩
  subst e
  exact h'.2.2 (hd_nil 0)
theorem isP_nil : isP (-1) = false := by decide
theorem suf_allv {r s : List Int} (h : r <:+ s) (hv : AllV s) : AllV r := fun c hc => hv c (h.subset hc)
theorem drop_suf (n : Nat) (s : List Int) : s.drop n <:+ s := List.drop_suffix n s
theorem hexes_suf (k : Nat) : ∀ (n : Int) (s : List Int), (hexes k n s).2 <:+ s := by
  induction k with
  | zero => intro n s; exact List.suffix_rfl
  | succ k ih =>
    intro n s
    simp only [hexes]
    split
    · exact List.suffix_rfl
    · exact (ih _ _).trans (drop_suf 1 s)
theorem fin_suf (q : Int × List Int) : (fin q).2 <:+ q.2 := by
  unfold fin
  dsimp only
  split
  · exact drop_suf 1 _
  · exact List.suffix_rfl
theorem escd_suf (s : List Int) : (escd s).2 <:+ s := by
  rw [escd_eq]
  split
  · exact drop_suf 1 s
  · exact (fin_suf _).trans (hexes_suf _ _ _)
theorem points_more (f : Nat) : ∀ (f' : Nat) (s : List Int), s.length ≤ f → s.length ≤ f' → points f s = points f' s := by
  induction f with
  | zero =>
    intro f' s h _
    obtain rfl := List.eq_nil_of_length_eq_zero (show s.length = 0 by omega)
    cases f' with
    | zero => rfl
    | succ f' => simp [points, esc, hd_nil, isP_nil]
  | succ f ih =>
    intro f' s h h'
    cases f' with
    | zero =>
      obtain rfl := List.eq_nil_of_length_eq_zero (show s.length = 0 by omega)
      simp [points, esc, hd_nil, isP_nil]
    | succ f' =>
      simp only [points]
      by_cases he : esc s 0 = true
      · obtain ⟨s', rfl, hs', _⟩ := esc_cons he
        have hl := escd_len hs'
        rw [if_pos he, if_pos he]
        simp only [List.drop_succ_cons, List.drop_zero, List.length_cons] at *
        rw [ih f' _ (by omega) (by omega)]
      · rw [if_neg he, if_neg he]
        by_cases hp : isP (hd s 0) = true
        · rw [if_pos hp, if_pos hp]
          cases s with
          | nil => rw [hd_nil, isP_nil] at hp; cases hp
          | cons d s =>
            simp only [List.drop_succ_cons, List.drop_zero, List.length_cons] at *
            rw [ih f' _ (by omega) (by omega)]
        · rw [if_neg hp, if_neg hp]
theorem name_eqn (s : List Int) : name s =
    if esc s 0 then ((escd (s.drop 1)).1 :: (name (escd (s.drop 1)).2).1, (name (escd (s.drop 1)).2).2)
    else if isP (hd s 0) then (hd s 0 :: (name (s.drop 1)).1, (name (s.drop 1)).2)
    else ([], s) := by
  unfold name
  cases hs : s with
  | nil => simp [points, esc, hd_nil, isP_nil]
  | cons d r =>
    simp only [List.length_cons, points]
    by_cases he : esc (d :: r) 0 = true
    · obtain ⟨s', e, hs', _⟩ := esc_cons he
      injection e with e1 e2
      subst e2
      have hl := escd_len hs'
      rw [if_pos he, if_pos he]
      simp only [List.drop_succ_cons, List.drop_zero]
      rw [points_more r.length (escd r).2.length (escd r).2 (by omega) (Nat.le_refl _)]
    · rw [if_neg he, if_neg he]
      simp only [List.drop_succ_cons, List.drop_zero]
theorem name_ind {M : List Int → List Int × List Int → Prop}
    (h1 : ∀ s', s' ≠ [] → hd s' 0 ≠ 10 → M (escd s').2 (name (escd s').2) → M (92 :: s') ((escd s').1 :: (name (escd s').2).1, (name (escd s').2).2))
    (h2 : ∀ d s', esc (d :: s') 0 = false → isP d = true → M s' (name s') → M (d :: s') (d :: (name s').1, (name s').2))
    (h3 : ∀ s, esc s 0 = false → isP (hd s 0) = false → M s ([], s)) : ∀ (n : Nat) (s : List Int), s.length ≤ n → M s (name s) := by
  intro n
  induction n with
  | zero =>
    intro s h
    obtain rfl := List.eq_nil_of_length_eq_zero (show s.length = 0 by omega)
    exact h3 [] (by simp [esc, hd_nil]) (by rw [hd_nil]; exact isP_nil)
  | succ n ih =>
    intro s h
    rw [name_eqn]
    by_cases he : esc s 0 = true
    · obtain ⟨s', rfl, hs', h10⟩ := esc_cons he
      have hl := escd_len hs'
      rw [if_pos he]
      simp only [List.drop_succ_cons, List.drop_zero, List.length_cons] at *
      exact h1 s' hs' h10 (ih _ (by omega))
    · rw [if_neg he]
      by_cases hp : isP (hd s 0) = true
      · rw [if_pos hp]
        cases s with
        | nil => rw [hd_nil, isP_nil] at hp; cases hp
        | cons d s =>
          simp only [List.drop_succ_cons, List.drop_zero, List.length_cons, hd_cons] at *
          exact h2 d s (by simpa using he) hp (ih s (by omega))
      · rw [if_neg hp]
        exact h3 s (by simpa using he) (by simpa using hp)
theorem name_suf (s : List Int) : (name s).2 <:+ s := by
  refine name_ind (M := fun s r => r.2 <:+ s) ?_ ?_ ?_ s.length s (Nat.le_refl _)
  · intro s' _ _ h
    exact (h.trans (escd_suf s')).trans (List.suffix_cons 92 s')
  · intro d s' _ _ h
    exact h.trans (List.suffix_cons d s')
  · intro s _ _
    exact List.suffix_rfl
theorem points_ev {l : List Int} (hl : l.length ≤ 1000000) (s : List Int) : ∀ (p : Nat) (acc : List Int), At l p s → acc.length ≤ p → AllV acc →
    ∃ p', At l p' (name s).2 ∧ Ev (fun k => tok_scanner_points.l0 k acc l p) (strOfNums (utf8 (acc ++ (name s).1)), (p' : Int)) := by
  refine name_ind (M := fun s r => ∀ (p : Nat) (acc : List Int), At l p s → acc.length ≤ p → AllV acc →
    ∃ p', At l p' r.2 ∧ Ev (fun k => tok_scanner_points.l0 k acc l p) (strOfNums (utf8 (acc ++ r.1)), (p' : Int))) ?_ ?_ ?_ s.length s (Nat.le_refl _)
  · intro s' hs' h10 ih p acc h ha hacc
    have he : esc (92 :: s') 0 = true := by
      unfold esc
      apply decide_eq_true
      refine ⟨rfl, by rw [hd_succ]; exact h10, ?_⟩
      rw [hd_succ]
      intro e
      exact hs' ((hd_none (fun c hc => h.vld c (by simp [hc]))).1 e)
    have hlen := h.len
    have hv' : AllV s' := fun c hc => h.vld c (by simp [hc])
    obtain ⟨q, hq, K, hK⟩ := escaped_ev h.cons hl hs'
    have hql := hq.len
    have hel := escd_len hs'
    simp only [List.length_cons] at hlen
    obtain ⟨p', h1, K', h2⟩ := ih q (acc ++ [(escd s').1]) hq (by simp; omega) (allv_snoc hacc (escd_vld hv' hs'))
    refine ⟨p', h1, max K K' + 1, fun k hk => ?_⟩
    obtain ⟨k, rfl⟩ : ∃ m, k = m + 1 := ⟨k - 1, by omega⟩
    have e0 : tok_scanner_escape.f l p 0 = some (esc (92 :: s') 0, (p : Int)) := escape_eq h hl 0 (by omega)
    rw [he] at e0
    have e1 : tok_scanner_escaped.f k l ((p + 1 : Nat) : Int) = some ((escd s').1, (q : Int)) := hK k (by omega)
    have e2 : tok_scanner_points.l0 k (acc ++ [(escd s').1]) l q = some (strOfNums (utf8 ((acc ++ [(escd s').1]) ++ (name (escd s').2).1)), (p' : Int)) := h2 k (by omega)
    rw [List.append_assoc, List.singleton_append] at e2
    show tok_scanner_points.l0 (k + 1) acc l p = _
    rw [tok_scanner_points.l0, e0, Option.bind_some]
    dsimp only
    rw [if_pos rfl, wp p (by omega), e1, Option.bind_some]
    dsimp only
    rw [if_pos (by omega)]
    exact e2
  · intro d s' he hp ih p acc h ha hacc
    have hlen := h.len
    simp only [List.length_cons] at hlen
    obtain ⟨p', h1, K', h2⟩ := ih (p + 1) (acc ++ [d]) h.cons (by simp; omega) (allv_snoc hacc (h.vld d (by simp)))
    refine ⟨p', h1, K' + 1, fun k hk => ?_⟩
    obtain ⟨k, rfl⟩ : ∃ m, k = m + 1 := ⟨k - 1, by omega⟩
    have e0 : tok_scanner_escape.f l p 0 = some (esc (d :: s') 0, (p : Int)) := escape_eq h hl 0 (by omega)
    rw [he] at e0
    have e1 : tok_scanner_at.f l p 0 = some (d, (p : Int)) := at_eq h hl 0 (by omega)
    have e2 : tok_scanner_points.l0 k (acc ++ [d]) l ((p + 1 : Nat) : Int) = some (strOfNums (utf8 ((acc ++ [d]) ++ (name s').1)), (p' : Int)) := h2 k (by omega)
    rw [List.append_assoc, List.singleton_append] at e2
    show tok_scanner_points.l0 (k + 1) acc l p = _
    rw [tok_scanner_points.l0, e0, Option.bind_some]
    dsimp only
    rw [if_neg Bool.false_ne_true, e1, Option.bind_some]
    dsimp only
    rw [point_eq, hp, Option.bind_some, if_pos rfl, e1, Option.bind_some]
    dsimp only
    rw [wp p (by omega), if_pos (by omega)]
    exact e2
  · intro s he hp p acc h ha hacc
    have hlen := h.len
    refine ⟨p, h, acc.length + 3, fun k hk => ?_⟩
    obtain ⟨k, rfl⟩ : ∃ m, k = m + 1 := ⟨k - 1, by omega⟩
    have e0 : tok_scanner_escape.f l p 0 = some (esc s 0, (p : Int)) := escape_eq h hl 0 (by omega)
    rw [he] at e0
    have e1 : tok_scanner_at.f l p 0 = some (hd s 0, (p : Int)) := at_eq h hl 0 (by omega)
    show tok_scanner_points.l0 (k + 1) acc l p = _
    rw [tok_scanner_points.l0, e0, Option.bind_some]
    dsimp only
    rw [if_neg Bool.false_ne_true, e1, Option.bind_some]
    dsimp only
    rw [point_eq, hp, Option.bind_some, if_neg Bool.false_ne_true, bytes_ev acc hacc (by omega) k (by omega), Option.bind_some, List.append_nil]
theorem name_ev {l : List Int} {p : Nat} {s : List Int} (h : At l p s) (hl : l.length ≤ 1000000) : ∃ p', At l p' (name s).2 ∧ Ev (fun k => tok_scanner_points.f k l p) (strOfNums (utf8 (name s).1), (p' : Int)) := by
  obtain ⟨p', h1, h2⟩ := points_ev hl s p [] h (by simp) (fun c hc => by cases hc)
  exact ⟨p', h1, h2⟩
theorem behind_ev {l : List Int} {p : Nat} {c : Int} {s : List Int} (h : At l p (c :: s)) (hl : l.length ≤ 1000000) (kd : Int) :
    ∃ p', At l p' (name s).2 ∧ Ev (fun k => tok_scanner_behindSign.f k l p kd) (kd, strOfNums (utf8 (name s).1), 0, false, 0, (p' : Int)) := by
  obtain ⟨p', h1, K, h2⟩ := name_ev h.cons hl
  have hlen := h.len
  simp only [List.length_cons] at hlen
  refine ⟨p', h1, K, fun k hk => ?_⟩
  have e : tok_scanner_points.f k l ((p + 1 : Nat) : Int) = some (strOfNums (utf8 (name s).1), (p' : Int)) := h2 k hk
  show tok_scanner_behindSign.f k l p kd = _
  rw [tok_scanner_behindSign.f, wp p (by omega), e, Option.bind_some]
theorem word_ev {l : List Int} {p : Nat} {s : List Int} (h : At l p s) (hl : l.length ≤ 1000000) :
    ∃ p', At l p' (word s).2 ∧ Ev (fun k => tok_scanner_word.f k l p) ((word s).1.k, strOfNums (utf8 (word s).1.t), 0, false, 0, (p' : Int)) := by
  obtain ⟨q, h1, K, h2⟩ := name_ev h hl
  have e0 : tok_scanner_at.f l q 0 = some (hd (name s).2 0, (q : Int)) := at_eq h1 hl 0 (by omega)
  by_cases hc : hd (name s).2 0 = 40
  · have hw : word s = ({ k := 20, t := (name s).1 }, (name s).2.drop 1) := by unfold word; rw [if_pos hc]
    obtain ⟨r, hr⟩ := ne_of_hd hc (by omega)
    rw [hw]
    dsimp only
    have h1' := h1
    rw [hr] at h1'
    have hlen := h1'.len
    simp only [List.length_cons] at hlen
    refine ⟨q + 1, by rw [hr]; exact h1'.cons, K, fun k hk => ?_⟩
    have e : tok_scanner_points.f k l p = some (strOfNums (utf8 (name s).1), (q : Int)) := h2 k hk
    show tok_scanner_word.f k l p = _
    rw [tok_scanner_word.f, e, Option.bind_some]
    dsimp only
    rw [e0, Option.bind_some]
    dsimp only
    rw [if_pos hc, wp q (by omega)]
  · have hw : word s = ({ k := 1, t := (name s).1 }, (name s).2) := by unfold word; rw [if_neg hc]
    rw [hw]
    dsimp only
    refine ⟨q, h1, K, fun k hk => ?_⟩
    have e : tok_scanner_points.f k l p = some (strOfNums (utf8 (name s).1), (q : Int)) := h2 k hk
    show tok_scanner_word.f k l p = _
    rw [tok_scanner_word.f, e, Option.bind_some]
    dsimp only
    rw [e0, Option.bind_some]
    dsimp only
    rw [if_neg hc]
end Go.Proofs.YtplkkmmojanclaaDoor.Tk
