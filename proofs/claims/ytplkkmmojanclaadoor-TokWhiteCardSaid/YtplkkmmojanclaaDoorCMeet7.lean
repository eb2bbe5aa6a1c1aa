/- Part of the proof; printed or typed in this session; unused declarations and remarks struck by a program (wip/prune.py). -/
import Derived.Test.YtplkkmmojanclaaDoorCMeet6
import Derived.Test.YtplkkmmojanclaaDoorCExtTok
set_option linter.all false
namespace Go.Proofs.YtplkkmmojanclaaDoor.Tk
open Go.RowKit Go.Proofs.YtplkkmmojanclaaDoor.My Go.Proofs.YtplkkmmojanclaaDoor.Q Go.Proofs.YtplkkmmojanclaaDoorW.PrintWords Go.Proofs.YtplkkmmojanclaaDoorW.PrintLast Go.Proofs.YtplkkmmojanclaaDoorW.PrintMore
theorem signs_eq (c : Int) : tok_signs.f c = some (signs c) := by
  unfold tok_signs.f signs
  repeat' split
  all_goals first | rfl | omega
theorem sign_ev {l : List Int} {p : Nat} {c : Int} {s : List Int} (h : At l p (c :: s)) (hl : l.length ≤ 1000000) :
    ∃ p', At l p' (sign (c :: s)).2 ∧ tok_scanner_sign.f l p = some (flat (tokS (sign (c :: s)).1) (p' : Int)) := by
  have hlen := h.len
  simp only [List.length_cons] at hlen
  have e0 : tok_scanner_at.f l p 0 = some (c, (p : Int)) := at_eq h hl 0 (by omega)
  refine ⟨p + 1, h.cons, ?_⟩
  unfold sign
  rw [tok_scanner_sign.f, e0, Option.bind_some]
  dsimp only
  rw [signs_eq, Option.bind_some, hd_cons, wp p (by omega)]
  by_cases hc : signs c = 10
  · rw [if_pos hc, if_pos hc, hc]
    rfl
  · rw [if_neg hc, if_neg hc]
    rfl
theorem white_ev {l : List Int} (hl : l.length ≤ 1000000) : ∀ (s : List Int) (p : Nat), At l p s →
    ∃ p', At l p' (s.dropWhile isW) ∧ Ev (fun k => tok_scanner_token.l0 k l p) (flat (tokS { k := 9 }) (p' : Int)) := by
  intro s
  induction s with
  | nil =>
    intro p h
    refine ⟨p, h, 1, fun k hk => ?_⟩
    obtain ⟨k, rfl⟩ : ∃ m, k = m + 1 := ⟨k - 1, by omega⟩
    have e0 : tok_scanner_at.f l p 0 = some (-1, (p : Int)) := at_eq h hl 0 (by omega)
    show tok_scanner_token.l0 (k + 1) l p = _
    rw [tok_scanner_token.l0, e0, Option.bind_some]
    dsimp only
    rw [white_eq, Option.bind_some, show isW (-1) = false from rfl, if_neg Bool.false_ne_true]
    rfl
  | cons d s ih =>
    intro p h
    have hlen := h.len
    simp only [List.length_cons] at hlen
    have e0 : tok_scanner_at.f l p 0 = some (d, (p : Int)) := at_eq h hl 0 (by omega)
    cases hw : isW d
    · rw [List.dropWhile_cons_of_neg (by rw [hw]; exact Bool.false_ne_true)]
      refine ⟨p, h, 1, fun k hk => ?_⟩
      obtain ⟨k, rfl⟩ : ∃ m, k = m + 1 := ⟨k - 1, by omega⟩
      show tok_scanner_token.l0 (k + 1) l p = _
      rw [tok_scanner_token.l0, e0, Option.bind_some]
      dsimp only
      rw [white_eq, Option.bind_some, hw, if_neg Bool.false_ne_true]
      rfl
    · rw [List.dropWhile_cons_of_pos hw]
      obtain ⟨p', h1, K, h2⟩ := ih (p + 1) h.cons
      refine ⟨p', h1, K + 1, fun k hk => ?_⟩
      obtain ⟨k, rfl⟩ : ∃ m, k = m + 1 := ⟨k - 1, by omega⟩
      show tok_scanner_token.l0 (k + 1) l p = _
      rw [tok_scanner_token.l0, e0, Option.bind_some]
      dsimp only
      rw [white_eq, Option.bind_some, hw, if_pos rfl, wp p (by omega)]
      exact h2 k (by omega)
theorem flat_word (s : List Int) (p : Int) : flat (tokS (word s).1) p = ((word s).1.k, strOfNums (utf8 (word s).1.t), 0, false, 0, p) := by
  unfold word
  split <;> rfl
theorem flat_eta (t : S31) (p : Int) : ((flat t p).1, (flat t p).2.1, (flat t p).2.2.1, (flat t p).2.2.2.1, (flat t p).2.2.2.2.1, (flat t p).2.2.2.2.2) = flat t p := rfl
def tok3 (b : Bool) (s : List Int) : Tok × List Int :=
  if b then ({ k := 2, t := (name (s.drop 1)).1 }, (name (s.drop 1)).2) else if nam s 0 then word s else sign s
def tok2 (b : Bool) (s : List Int) : Tok × List Int :=
  if b then ({ k := 3, t := (name (s.drop 1)).1 }, (name (s.drop 1)).2) else if num s then amount s else tok3 (decide (hd s 0 = 64) && nam s 1) s
theorem tok_eqn (s : List Int) : tok s = if isW (hd s 0) then ({ k := 9 }, s.dropWhile isW) else if hd s 0 = 34 ∨ hd s 0 = 39 then str s else tok2 (decide (hd s 0 = 35) && (isP (hd s 1) || esc s 1)) s := by
  unfold tok tok2 tok3
  simp only [Bool.and_eq_true, Bool.or_eq_true, decide_eq_true_eq]
theorem j3_ev {l : List Int} {p : Nat} {c : Int} {s : List Int} (h : At l p (c :: s)) (hl : l.length ≤ 1000000) (b : Bool) :
    ∃ p', At l p' (tok3 b (c :: s)).2 ∧ Ev (fun k => tok_scanner_token.j3 k b l p) (flat (tokS (tok3 b (c :: s)).1) (p' : Int)) := by
  unfold tok3
  cases b
  · rw [if_neg Bool.false_ne_true]
    have e1 : tok_scanner_name.f l p 0 = some (nam (c :: s) 0, (p : Int)) := name_eq h hl 0 (by omega)
    cases hm : nam (c :: s) 0
    · rw [hm] at e1
      rw [if_neg Bool.false_ne_true]
      obtain ⟨p', a1, f1⟩ := sign_ev h hl
      refine ⟨p', a1, 1, fun k hk => ?_⟩
      obtain ⟨k, rfl⟩ : ∃ m, k = m + 1 := ⟨k - 1, by omega⟩
      show tok_scanner_token.j3 (k + 1) false l p = _
      rw [tok_scanner_token.j3, if_neg Bool.false_ne_true, e1, Option.bind_some]
      dsimp only
      rw [if_neg Bool.false_ne_true, f1, Option.bind_some, flat_eta]
    · rw [hm] at e1
      rw [if_pos rfl]
      obtain ⟨p', a1, K, f1⟩ := word_ev h hl
      rw [← flat_word] at f1
      refine ⟨p', a1, K + 1, fun k hk => ?_⟩
      obtain ⟨k, rfl⟩ : ∃ m, k = m + 1 := ⟨k - 1, by omega⟩
      have g1 : tok_scanner_word.f k l p = some (flat (tokS (word (c :: s)).1) (p' : Int)) := f1 k (by omega)
      show tok_scanner_token.j3 (k + 1) false l p = _
      rw [tok_scanner_token.j3, if_neg Bool.false_ne_true, e1, Option.bind_some]
      dsimp only
      rw [if_pos rfl, g1, Option.bind_some, flat_eta]
  · rw [if_pos rfl]
    rw [List.drop_succ_cons, List.drop_zero]
    obtain ⟨p', a1, K, f1⟩ := behind_ev h hl 2
    refine ⟨p', a1, K + 1, fun k hk => ?_⟩
    obtain ⟨k, rfl⟩ : ∃ m, k = m + 1 := ⟨k - 1, by omega⟩
    have g1 : tok_scanner_behindSign.f k l p 2 = some (flat (tokS { k := 2, t := (name s).1 }) (p' : Int)) := f1 k (by omega)
    show tok_scanner_token.j3 (k + 1) true l p = _
    rw [tok_scanner_token.j3, if_pos rfl, g1, Option.bind_some, flat_eta]
theorem j2_tok {l : List Int} {p : Nat} {c : Int} {s : List Int} (h : At l p (c :: s)) (hl : l.length ≤ 1000000) (b : Bool) :
    ∃ p', At l p' (tok2 b (c :: s)).2 ∧ Ev (fun k => tok_scanner_token.j2 k c b l p) (flat (tokS (tok2 b (c :: s)).1) (p' : Int)) := by
  unfold tok2
  cases b
  · rw [if_neg Bool.false_ne_true]
    cases hm : num (c :: s)
    · rw [if_neg Bool.false_ne_true]
      have e2 : tok_scanner_name.f l p 1 = some (nam (c :: s) 1, (p : Int)) := name_eq h hl 1 (by omega)
      obtain ⟨p', a1, K, f1⟩ := j3_ev h hl (decide (hd (c :: s) 0 = 64) && nam (c :: s) 1)
      refine ⟨p', a1, K + 3, fun k hk => ?_⟩
      obtain ⟨k, rfl⟩ : ∃ m, k = m + 1 := ⟨k - 1, by omega⟩
      have e1 := number_eq h hl k (by omega)
      rw [hm] at e1
      have g1 : tok_scanner_token.j3 k (decide (hd (c :: s) 0 = 64) && nam (c :: s) 1) l p = some (flat (tokS (tok3 (decide (hd (c :: s) 0 = 64) && nam (c :: s) 1) (c :: s)).1) (p' : Int)) := f1 k (by omega)
      show tok_scanner_token.j2 (k + 1) c false l p = _
      rw [tok_scanner_token.j2, if_neg Bool.false_ne_true, e1, Option.bind_some]
      dsimp only
      rw [if_neg Bool.false_ne_true]
      by_cases hc : c = 64
      · rw [if_pos hc, e2, Option.bind_some]
        dsimp only
        rw [hd_cons, decide_eq_true hc, Bool.true_and] at g1 ⊢
        exact g1
      · rw [if_neg hc]
        rw [hd_cons, decide_eq_false hc, Bool.false_and] at g1 ⊢
        exact g1
    · rw [if_pos rfl]
      obtain ⟨p', a1, K, f1⟩ := amount_ev h hl hm
      refine ⟨p', a1, K + 3, fun k hk => ?_⟩
      obtain ⟨k, rfl⟩ : ∃ m, k = m + 1 := ⟨k - 1, by omega⟩
      have e1 := number_eq h hl k (by omega)
      rw [hm] at e1
      have g1 : tok_scanner_amount.f k l p = some (flat (tokS (amount (c :: s)).1) (p' : Int)) := f1 k (by omega)
      show tok_scanner_token.j2 (k + 1) c false l p = _
      rw [tok_scanner_token.j2, if_neg Bool.false_ne_true, e1, Option.bind_some]
      dsimp only
      rw [if_pos rfl, g1, Option.bind_some, flat_eta]
  · rw [if_pos rfl]
    rw [List.drop_succ_cons, List.drop_zero]
    obtain ⟨p', a1, K, f1⟩ := behind_ev h hl 3
    refine ⟨p', a1, K + 1, fun k hk => ?_⟩
    obtain ⟨k, rfl⟩ : ∃ m, k = m + 1 := ⟨k - 1, by omega⟩
    have g1 : tok_scanner_behindSign.f k l p 3 = some (flat (tokS { k := 3, t := (name s).1 }) (p' : Int)) := f1 k (by omega)
    show tok_scanner_token.j2 (k + 1) c true l p = _
    rw [tok_scanner_token.j2, if_pos rfl, g1, Option.bind_some, flat_eta]
theorem tok_ev {l : List Int} {p : Nat} {s : List Int} (h : At l p s) (hl : l.length ≤ 1000000) (hs : s ≠ []) :
    ∃ p', At l p' (tok s).2 ∧ Ev (fun k => tok_scanner_token.f k l p) (flat (tokS (tok s).1) (p' : Int)) := by
  obtain ⟨c, s, rfl⟩ : ∃ c r, s = c :: r := by
    cases s with
    | nil => exact absurd rfl hs
    | cons c r => exact ⟨c, r, rfl⟩
  rw [tok_eqn, hd_cons]
  have e0 : tok_scanner_at.f l p 0 = some (c, (p : Int)) := at_eq h hl 0 (by omega)
  cases hw : isW c
  · rw [if_neg Bool.false_ne_true]
    by_cases hq : c = 34 ∨ c = 39
    · rw [if_pos hq]
      obtain ⟨p', a1, K, f1⟩ := str_ev h hl hq
      refine ⟨p', a1, K + 1, fun k hk => ?_⟩
      obtain ⟨k, rfl⟩ : ∃ m, k = m + 1 := ⟨k - 1, by omega⟩
      have g1 : tok_scanner_quoted.f k l p = some (flat (tokS (str (c :: s)).1) (p' : Int)) := f1 k (by omega)
      have hj : tok_scanner_token.j1 (k + 1) c true l p = some (flat (tokS (str (c :: s)).1) (p' : Int)) := by
        rw [tok_scanner_token.j1, if_pos rfl, g1, Option.bind_some, flat_eta]
      show tok_scanner_token.f (k + 1) l p = _
      rw [tok_scanner_token.f, e0, Option.bind_some]
      dsimp only
      rw [white_eq, Option.bind_some, hw, if_neg Bool.false_ne_true]
      by_cases h34 : c = 34
      · rw [if_pos h34]; exact hj
      · rw [if_neg h34, beq_iff_eq.2 (hq.resolve_left h34)]; exact hj
    · rw [if_neg hq]
      obtain ⟨p', a1, K, f1⟩ := j2_tok h hl (decide (c = 35) && (isP (hd (c :: s) 1) || esc (c :: s) 1))
      refine ⟨p', a1, K + 1, fun k hk => ?_⟩
      obtain ⟨k, rfl⟩ : ∃ m, k = m + 1 := ⟨k - 1, by omega⟩
      have g0 : tok_scanner_token.j2 k c (decide (c = 35) && (isP (hd (c :: s) 1) || esc (c :: s) 1)) l p = some (flat (tokS (tok2 (decide (c = 35) && (isP (hd (c :: s) 1) || esc (c :: s) 1)) (c :: s)).1) (p' : Int)) := f1 k (by omega)
      have e1 : tok_scanner_at.f l p 1 = some (hd (c :: s) 1, (p : Int)) := at_eq h hl 1 (by omega)
      have e2 : tok_scanner_escape.f l p 1 = some (esc (c :: s) 1, (p : Int)) := escape_eq h hl 1 (by omega)
      have hj : tok_scanner_token.j1 (k + 1) c false l p = some (flat (tokS (tok2 (decide (c = 35) && (isP (hd (c :: s) 1) || esc (c :: s) 1)) (c :: s)).1) (p' : Int)) := by
        rw [tok_scanner_token.j1, if_neg Bool.false_ne_true]
        by_cases hc : c = 35
        · rw [if_pos hc, e1, Option.bind_some]
          dsimp only
          rw [point_eq, Option.bind_some]
          rw [decide_eq_true hc, Bool.true_and] at g0 ⊢
          cases hp : isP (hd (c :: s) 1)
          · rw [if_neg Bool.false_ne_true, e2, Option.bind_some]
            dsimp only
            rw [hp, Bool.false_or] at g0
            rw [Bool.false_or]
            exact g0
          · rw [if_pos rfl]
            rw [hp, Bool.true_or] at g0
            rw [Bool.true_or]
            exact g0
        · rw [if_neg hc]
          rw [decide_eq_false hc, Bool.false_and] at g0 ⊢
          exact g0
      show tok_scanner_token.f (k + 1) l p = _
      rw [tok_scanner_token.f, e0, Option.bind_some]
      dsimp only
      rw [white_eq, Option.bind_some, hw, if_neg Bool.false_ne_true, if_neg (fun e => hq (.inl e)), beq_eq_false_iff_ne.2 (fun e => hq (.inr e))]
      exact hj
  · rw [if_pos rfl]
    obtain ⟨p', a1, K, f1⟩ := white_ev hl (c :: s) p h
    refine ⟨p', a1, K, fun k hk => ?_⟩
    show tok_scanner_token.f k l p = _
    rw [tok_scanner_token.f, e0, Option.bind_some]
    dsimp only
    rw [white_eq, Option.bind_some, hw, if_pos rfl]
    exact f1 k hk
theorem past_suf : ∀ s : List Int, past s <:+ s
  | [] => List.suffix_rfl
  | c :: s => by
    unfold past
    split
    · exact (drop_suf 1 s).trans (List.suffix_cons c s)
    · exact (past_suf s).trans (List.suffix_cons c s)
theorem past_ev {l : List Int} (hl : l.length ≤ 1000000) : ∀ (s : List Int) (p : Nat), At l p s →
    ∃ p', At l p' (past s) ∧ Ev (fun k => tok_scanner_comment.l0 k l p) (true, (p' : Int)) := by
  intro s
  induction s with
  | nil =>
    intro p h
    have hlen := h.len
    simp only [List.length_nil] at hlen
    refine ⟨p, h, 1, fun k hk => ?_⟩
    obtain ⟨k, rfl⟩ : ∃ m, k = m + 1 := ⟨k - 1, by omega⟩
    show tok_scanner_comment.l0 (k + 1) l p = _
    rw [tok_scanner_comment.l0, if_neg (by omega)]
  | cons c s ih =>
    intro p h
    have hlen := h.len
    simp only [List.length_cons] at hlen
    have e0 : tok_scanner_at.f l p 0 = some (c, (p : Int)) := at_eq h hl 0 (by omega)
    have e1 : tok_scanner_at.f l p 1 = some (hd s 0, (p : Int)) := by
      rw [← hd_succ c s 0]
      exact at_eq h hl 1 (by omega)
    unfold past
    by_cases hc : c = 42 ∧ hd s 0 = 47
    · rw [if_pos hc]
      obtain ⟨r, rfl⟩ := ne_of_hd hc.2 (by omega)
      refine ⟨p + 2, h.cons.cons, 1, fun k hk => ?_⟩
      obtain ⟨k, rfl⟩ : ∃ m, k = m + 1 := ⟨k - 1, by omega⟩
      show tok_scanner_comment.l0 (k + 1) l p = _
      rw [tok_scanner_comment.l0, if_pos (by omega), e0, Option.bind_some]
      dsimp only
      rw [if_pos hc.1, e1, Option.bind_some]
      dsimp only
      rw [if_pos hc.2, wp2 p (by omega)]
    · rw [if_neg hc]
      obtain ⟨p', h1, K, h2⟩ := ih (p + 1) h.cons
      refine ⟨p', h1, K + 1, fun k hk => ?_⟩
      obtain ⟨k, rfl⟩ : ∃ m, k = m + 1 := ⟨k - 1, by omega⟩
      have g1 : tok_scanner_comment.l0 k l ((p + 1 : Nat) : Int) = some (true, (p' : Int)) := h2 k (by omega)
      show tok_scanner_comment.l0 (k + 1) l p = _
      rw [tok_scanner_comment.l0, if_pos (by omega), e0, Option.bind_some]
      dsimp only
      by_cases h42 : c = 42
      · rw [if_pos h42, e1, Option.bind_some]
        dsimp only
        rw [if_neg (fun e => hc ⟨h42, e⟩), wp p (by omega)]
        exact g1
      · rw [if_neg h42, wp p (by omega)]
        exact g1
theorem comment_ev {l : List Int} {p : Nat} {s : List Int} (h : At l p s) (hl : l.length ≤ 1000000) (hc : hd s 0 = 47 ∧ hd s 1 = 42) :
    ∃ p', At l p' (past (s.drop 2)) ∧ Ev (fun k => tok_scanner_comment.f k l p) (true, (p' : Int)) := by
  have e0 : tok_scanner_at.f l p 0 = some (hd s 0, (p : Int)) := at_eq h hl 0 (by omega)
  have e1 : tok_scanner_at.f l p 1 = some (hd s 1, (p : Int)) := at_eq h hl 1 (by omega)
  obtain ⟨r, rfl⟩ := ne_of_hd hc.1 (by omega)
  have h1 := hc.2
  rw [hd_succ] at h1
  obtain ⟨r, rfl⟩ := ne_of_hd h1 (by omega)
  have hlen := h.len
  simp only [List.length_cons] at hlen
  obtain ⟨p', a1, K, f1⟩ := past_ev hl r (p + 2) h.cons.cons
  refine ⟨p', a1, K + 1, fun k hk => ?_⟩
  obtain ⟨k, rfl⟩ : ∃ m, k = m + 1 := ⟨k - 1, by omega⟩
  show tok_scanner_comment.f (k + 1) l p = _
  rw [tok_scanner_comment.f, e0, Option.bind_some]
  dsimp only
  rw [if_pos hc.1, e1, Option.bind_some]
  dsimp only
  rw [hc.2, show ((42 : Int) != 42) = false from rfl, tok_scanner_comment.j0, if_neg Bool.false_ne_true, wp2 p (by omega)]
  exact f1 k (by omega)
theorem nocomment_ev {l : List Int} {p : Nat} {s : List Int} (h : At l p s) (hl : l.length ≤ 1000000) (hc : ¬ (hd s 0 = 47 ∧ hd s 1 = 42)) :
    Ev (fun k => tok_scanner_comment.f k l p) (false, (p : Int)) := by
  have e0 : tok_scanner_at.f l p 0 = some (hd s 0, (p : Int)) := at_eq h hl 0 (by omega)
  have e1 : tok_scanner_at.f l p 1 = some (hd s 1, (p : Int)) := at_eq h hl 1 (by omega)
  refine ⟨1, fun k hk => ?_⟩
  obtain ⟨k, rfl⟩ : ∃ m, k = m + 1 := ⟨k - 1, by omega⟩
  show tok_scanner_comment.f (k + 1) l p = _
  rw [tok_scanner_comment.f, e0, Option.bind_some]
  dsimp only
  by_cases h47 : hd s 0 = 47
  · rw [if_pos h47, e1, Option.bind_some]
    dsimp only
    have hne : hd s 1 ≠ 42 := fun e => hc ⟨h47, e⟩
    have hb : (hd s 1 != 42) = true := bne_iff_ne.2 hne
    rw [hb, tok_scanner_comment.j0, if_pos rfl]
  · rw [if_neg h47, tok_scanner_comment.j0, if_pos rfl]
theorem dropWhile_len (f : Int → Bool) (s : List Int) : (s.dropWhile f).length ≤ s.length := (List.dropWhile_suffix f).length_le
theorem name_lt {s : List Int} (h : nam s 0 = true) : (name s).2.length < s.length := by
  rw [name_eqn]
  by_cases he : esc s 0 = true
  · rw [if_pos he]
    obtain ⟨s', rfl, hs', _⟩ := esc_cons he
    have h1 := escd_len hs'
    have h2 := (name_suf (escd s').2).length_le
    rw [List.drop_succ_cons, List.drop_zero]
    simp only [List.length_cons]
    omega
  · rw [if_neg he]
    have hp : isP (hd s 0) = true := by
      unfold nam at h
      by_cases h45 : hd s 0 = 45
      · rw [h45]; rfl
      · rw [if_neg h45] at h
        have he' : esc s 0 = false := by simpa using he
        rw [he', Bool.or_false] at h
        unfold isP
        rw [h]; rfl
    rw [if_pos hp]
    cases s with
    | nil => rw [hd_nil, isP_nil] at hp; cases hp
    | cons d s =>
      have := (name_suf s).length_le
      rw [List.drop_succ_cons, List.drop_zero]
      simp only [List.length_cons]
      omega
theorem unit_len (n : Int) (w : Bool) (s : List Int) : (unit n w s).2.length ≤ s.length := by
  unfold unit
  split
  · exact (name_suf s).length_le
  · split
    · simp
    · exact Nat.le_refl _
theorem amt_len (neg : Bool) (s : List Int) : (amt neg s).2.length ≤ s.length := by
  have h1 := dropWhile_len isD s
  unfold amt
  split
  · exact Nat.le_trans (unit_len _ _ _) h1
  · refine Nat.le_trans (unit_len _ _ _) (Nat.le_trans (dropWhile_len isD _) ?_)
    rw [List.length_drop]
    omega
theorem amt_lt (neg : Bool) {s : List Int} (h : numAt s 0 = true) : (amt neg s).2.length < s.length := by
  have h1 := dropWhile_len isD s
  have h2 := tw_len s
  unfold amt
  split
  · next hc =>
    refine Nat.lt_of_le_of_lt (unit_len _ _ _) ?_
    have hne : s.takeWhile isD ≠ [] := by
      unfold numAt at h
      rcases Bool.or_eq_true_iff.1 h with h3 | h3
      · exact takeWhile_ne h3
      · obtain ⟨h4, h5⟩ := (Bool.and_eq_true _ _).mp h3
        have h4' := of_decide_eq_true h4
        have hd0 : isD (hd s 0) = false := by rw [h4']; rfl
        rw [(takeWhile_none hd0).2] at hc
        rcases hc with hc | hc
        · exact absurd h4' hc
        · rw [h5] at hc; cases hc
    have := List.length_pos_iff.2 hne
    omega
  · next hc =>
    refine Nat.lt_of_le_of_lt (unit_len _ _ _) (Nat.lt_of_le_of_lt (dropWhile_len isD _) ?_)
    have h46 : hd (s.dropWhile isD) 0 = 46 := Classical.byContradiction fun h => hc (.inl h)
    obtain ⟨r, hr⟩ := ne_of_hd h46 (by omega)
    rw [hr] at h1 ⊢
    simp only [List.length_cons, List.drop_succ_cons, List.drop_zero] at *
    omega
theorem amount_lt {s : List Int} (h : num s = true) : (amount s).2.length < s.length := by
  unfold amount
  unfold num at h
  cases hs : sgn s
  · rw [hs, if_neg Bool.false_ne_true] at h
    rw [if_neg Bool.false_ne_true]
    exact amt_lt _ h
  · rw [if_pos rfl]
    have hs' := of_decide_eq_true hs
    obtain ⟨c, r, rfl⟩ := cons_of_hd (s := s) (by omega)
    rw [List.drop_succ_cons, List.drop_zero]
    have := amt_len (decide (hd (c :: r) 0 = 45)) r
    simp only [List.length_cons]
    omega
theorem tok_lt {s : List Int} (hv : AllV s) (hs : s ≠ []) : (tok s).2.length < s.length := by
  obtain ⟨c, s, rfl⟩ : ∃ c r, s = c :: r := by
    cases s with
    | nil => exact absurd rfl hs
    | cons c r => exact ⟨c, r, rfl⟩
  have hv' : AllV s := fun d hd => hv d (by simp [hd])
  rw [tok_eqn, hd_cons]
  have hnm := (name_suf s).length_le
  cases hw : isW c
  · rw [if_neg Bool.false_ne_true]
    by_cases hq : c = 34 ∨ c = 39
    · rw [if_pos hq, str_eqn]
      have := (qd_suf c s hv').length_le
      simp only [List.length_cons]
      omega
    · rw [if_neg hq]
      unfold tok2
      split
      · simp only [List.drop_succ_cons, List.drop_zero, List.length_cons]
        omega
      · split
        · next h => exact amount_lt h
        · unfold tok3
          split
          · simp only [List.drop_succ_cons, List.drop_zero, List.length_cons]
            omega
          · split
            · next h =>
              have := name_lt h
              unfold word
              split
              · simp only [List.length_drop]
                omega
              · exact this
            · unfold sign
              simp
  · rw [if_pos rfl, List.dropWhile_cons_of_pos hw]
    have := dropWhile_len isW s
    simp only [List.length_cons]
    omega
def tks (s : List Int) : List Tok := toks s.length s
theorem toks_more (f : Nat) : ∀ (f' : Nat) (s : List Int), AllV s → (∀ s, AllV s → s ≠ [] → AllV (tok s).2) → s.length ≤ f → s.length ≤ f' → toks f s = toks f' s := by
  induction f with
  | zero =>
    intro f' s _ _ h _
    obtain rfl := List.eq_nil_of_length_eq_zero (show s.length = 0 by omega)
    cases f' with
    | zero => rfl
    | succ f' => simp [toks]
  | succ f ih =>
    intro f' s hv ht h h'
    by_cases hs : s = []
    · subst hs
      cases f' with
      | zero => simp [toks]
      | succ f' => simp [toks]
    · cases f' with
      | zero => exact absurd (List.eq_nil_of_length_eq_zero (by omega)) hs
      | succ f' =>
        unfold toks
        rw [if_neg hs, if_neg hs]
        by_cases hc : hd s 0 = 47 ∧ hd s 1 = 42
        · rw [if_pos hc, if_pos hc]
          have h1 := (past_suf (s.drop 2)).length_le
          have h2 := List.length_pos_iff.2 hs
          rw [List.length_drop] at h1
          exact ih f' _ (suf_allv ((past_suf _).trans (drop_suf 2 s)) hv) ht (by omega) (by omega)
        · rw [if_neg hc, if_neg hc]
          have h1 := tok_lt hv hs
          rw [ih f' _ (ht s hv hs) ht (by omega) (by omega)]
theorem unit_suf (n : Int) (w : Bool) (s : List Int) : (unit n w s).2 <:+ s := by
  unfold unit
  split
  · exact name_suf s
  · split
    · exact drop_suf 1 s
    · exact List.suffix_rfl
theorem amt_suf (neg : Bool) (s : List Int) : (amt neg s).2 <:+ s := by
  unfold amt
  split
  · exact (unit_suf _ _ _).trans (List.dropWhile_suffix isD)
  · exact (unit_suf _ _ _).trans ((List.dropWhile_suffix isD).trans ((drop_suf 1 _).trans (List.dropWhile_suffix isD)))
theorem tok_suf {s : List Int} (hv : AllV s) : (tok s).2 <:+ s := by
  rw [tok_eqn]
  split
  · exact List.dropWhile_suffix isW
  · split
    · next hq =>
      obtain ⟨c, r, rfl⟩ := cons_of_hd (s := s) (by omega)
      rw [str_eqn]
      exact (qd_suf c r (fun d hd => hv d (by simp [hd]))).trans (List.suffix_cons c r)
    · unfold tok2
      split
      · exact (name_suf _).trans (drop_suf 1 s)
      · split
        · unfold amount
          refine (amt_suf _ _).trans ?_
          split
          · exact drop_suf 1 s
          · exact List.suffix_rfl
        · unfold tok3
          split
          · exact (name_suf _).trans (drop_suf 1 s)
          · split
            · unfold word
              split
              · exact (drop_suf 1 _).trans (name_suf s)
              · exact name_suf s
            · exact drop_suf 1 s
theorem toks_fuel {f f' : Nat} {s : List Int} (hv : AllV s) (h : s.length ≤ f) (h' : s.length ≤ f') : toks f s = toks f' s :=
  toks_more f f' s hv (fun s hv _ => suf_allv (tok_suf hv) hv) h h'
theorem tks_comment {s : List Int} (hv : AllV s) (hc : hd s 0 = 47 ∧ hd s 1 = 42) : tks s = tks (past (s.drop 2)) := by
  obtain ⟨c, r, rfl⟩ := cons_of_hd (s := s) (by omega)
  have h1 := (past_suf ((c :: r).drop 2)).length_le
  rw [List.length_drop] at h1
  simp only [List.length_cons] at h1
  unfold tks
  rw [List.length_cons, toks, if_neg (List.cons_ne_nil _ _), if_pos hc]
  exact toks_fuel (suf_allv ((past_suf _).trans (drop_suf 2 _)) hv) (by omega) (Nat.le_refl _)
theorem tks_tok {s : List Int} (hv : AllV s) (hs : s ≠ []) (hc : ¬ (hd s 0 = 47 ∧ hd s 1 = 42)) : tks s = (tok s).1 :: tks (tok s).2 := by
  have h1 := tok_lt hv hs
  unfold tks
  obtain ⟨n, hn⟩ : ∃ n, s.length = n + 1 := ⟨s.length - 1, by omega⟩
  rw [hn, toks, if_neg hs, if_neg hc, toks_fuel (suf_allv (tok_suf hv) hv) (show (tok s).2.length ≤ n by omega) (Nat.le_refl _)]
theorem tks_ind {M : List Int → List Tok → Prop} (h0 : M [] [])
    (h1 : ∀ s, AllV s → hd s 0 = 47 ∧ hd s 1 = 42 → M (past (s.drop 2)) (tks (past (s.drop 2))) → M s (tks (past (s.drop 2))))
    (h2 : ∀ s, AllV s → s ≠ [] → ¬ (hd s 0 = 47 ∧ hd s 1 = 42) → M (tok s).2 (tks (tok s).2) → M s ((tok s).1 :: tks (tok s).2)) : ∀ (n : Nat) (s : List Int), s.length ≤ n → AllV s → M s (tks s) := by
  intro n
  induction n with
  | zero =>
    intro s h _
    obtain rfl := List.eq_nil_of_length_eq_zero (show s.length = 0 by omega)
    exact h0
  | succ n ih =>
    intro s h hv
    by_cases hs : s = []
    · subst hs; exact h0
    · by_cases hc : hd s 0 = 47 ∧ hd s 1 = 42
      · rw [tks_comment hv hc]
        have h3 := (past_suf (s.drop 2)).length_le
        have h4 := List.length_pos_iff.2 hs
        rw [List.length_drop] at h3
        exact h1 s hv hc (ih _ (by omega) (suf_allv ((past_suf _).trans (drop_suf 2 s)) hv))
      · rw [tks_tok hv hs hc]
        have := tok_lt hv hs
        exact h2 s hv hs hc (ih _ (by omega) (suf_allv (tok_suf hv) hv))
theorem tks_len (s : List Int) (hv : AllV s) : (tks s).length ≤ s.length := by
  refine tks_ind (M := fun s t => t.length ≤ s.length) (by simp) ?_ ?_ s.length s (Nat.le_refl _) hv
  · intro s _ _ h
    have h1 := (past_suf (s.drop 2)).length_le
    rw [List.length_drop] at h1
    omega
  · intro s hv hs _ h
    have := tok_lt hv hs
    simp only [List.length_cons]
    omega
theorem tokF_of {l : List Int} {p : Nat} {k : Nat} {t : S31} {p' : Nat} (h : tok_scanner_token.f k l p = some (flat t (p' : Int))) : tokF k l p = some (t, (p' : Int)) := by
  unfold tokF
  rw [h]
  rfl
theorem toksL_ev {l : List Int} (hl : l.length ≤ 1000000) (s : List Int) (hv : AllV s) : ∀ p, At l p s →
    ∃ K0 F0 : Nat, ∀ K, K0 ≤ K → ∀ f, F0 ≤ f → toksL (comF K l) (tokF K l) (l.length : Int) f (p : Int) = some ((tks s).map tokS) := by
  refine tks_ind (M := fun s t => ∀ p, At l p s →
    ∃ K0 F0 : Nat, ∀ K, K0 ≤ K → ∀ f, F0 ≤ f → toksL (comF K l) (tokF K l) (l.length : Int) f (p : Int) = some (t.map tokS)) ?_ ?_ ?_ s.length s (Nat.le_refl _) hv
  · intro p h
    have hlen := h.len
    simp only [List.length_nil] at hlen
    refine ⟨0, 1, fun K _ f hf => ?_⟩
    obtain ⟨f, rfl⟩ : ∃ m, f = m + 1 := ⟨f - 1, by omega⟩
    rw [toksL, if_neg (by omega)]
    rfl
  · intro s hv hc ih p h
    have hlen := h.len
    obtain ⟨p', a1, K1, f1⟩ := comment_ev h hl hc
    obtain ⟨K0, F0, h2⟩ := ih p' a1
    have hs : s ≠ [] := fun e => by rw [e, hd_nil] at hc; omega
    have := List.length_pos_iff.2 hs
    refine ⟨max K0 K1, F0 + 1, fun K hK f hf => ?_⟩
    obtain ⟨f, rfl⟩ : ∃ m, f = m + 1 := ⟨f - 1, by omega⟩
    have g1 : comF K l p = some (true, (p' : Int)) := f1 K (by omega)
    rw [toksL, if_pos (by omega), g1, Option.bind_some, if_pos rfl]
    exact h2 K (by omega) f (by omega)
  · intro s hv hs hc ih p h
    have hlen := h.len
    obtain ⟨K1, f1⟩ := nocomment_ev h hl hc
    obtain ⟨p', a1, K2, f2⟩ := tok_ev h hl hs
    obtain ⟨K0, F0, h2⟩ := ih p' a1
    have := List.length_pos_iff.2 hs
    refine ⟨max K0 (max K1 K2), F0 + 1, fun K hK f hf => ?_⟩
    obtain ⟨f, rfl⟩ : ∃ m, f = m + 1 := ⟨f - 1, by omega⟩
    have g1 : comF K l p = some (false, (p : Int)) := f1 K (by omega)
    have g2 : tokF K l p = some (tokS (tok s).1, (p' : Int)) := tokF_of (f2 K (by omega))
    rw [toksL, if_pos (by omega), g1, Option.bind_some]
    dsimp only
    rw [if_neg Bool.false_ne_true, g2, Option.bind_some]
    dsimp only
    rw [h2 K (by omega) f (by omega)]
    rfl
theorem tokens_ev (l : List Int) (hl : l.length ≤ 1000000) : Ev (fun k => tok_Tokens.f k l) ((tks (l.map cp)).map tokS) := by
  obtain ⟨K0, F0, h⟩ := toksL_ev hl (l.map cp) (At.zero l).vld 0 (At.zero l)
  have hlen := tks_len (l.map cp) (At.zero l).vld
  rw [List.length_map] at hlen
  refine ⟨max K0 F0, fun k hk => ?_⟩
  have g : toksL (comF k l) (tokF k l) (l.length : Int) k 0 = some ((tks (l.map cp)).map tokS) := h k (by omega) k (by omega)
  show tok_Tokens.f k l = _
  rw [tok_Tokens.f, if_pos (by omega), g, Option.bind_some, if_pos (by rw [List.length_map]; omega)]
end Go.Proofs.YtplkkmmojanclaaDoor.Tk
