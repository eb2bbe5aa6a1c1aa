/- Part of the proof; printed or typed in this session; unused declarations and remarks struck by a program (wip/prune.py). -/
import Derived.Test.YtplkkmmojanclaaDoorCMeet5
set_option linter.all false
namespace Go.Proofs.YtplkkmmojanclaaDoor.Tk
open Go.RowKit Go.Proofs.YtplkkmmojanclaaDoor.My Go.Proofs.YtplkkmmojanclaaDoor.Q Go.Proofs.YtplkkmmojanclaaDoorW.PrintWords Go.Proofs.YtplkkmmojanclaaDoorW.PrintLast Go.Proofs.YtplkkmmojanclaaDoorW.PrintMore
theorem str45 : (⟨#[45]⟩ : ByteArray) = strOfNums [45] := rfl
theorem str43 : (⟨#[43]⟩ : ByteArray) = strOfNums [43] := rfl
theorem numOf_plain {b : List Int} (hb : Byt b) (h1 : hd b 0 ≠ 45) (h2 : hd b 0 ≠ 43) {r : Int × Bool} (h : Ev (fun k => num_Of.j1 k (strOfNums b) false) r) : Ev (fun k => num_Of.f k (strOfNums b)) r := by
  obtain ⟨K, hK⟩ := h
  refine ⟨K + 1, fun k hk => ?_⟩
  obtain ⟨k, rfl⟩ : ∃ m, k = m + 1 := ⟨k - 1, by omega⟩
  show num_Of.f (k + 1) (strOfNums b) = _
  rw [num_Of.f, str45, prefix_eq b hb 45 (by omega), Option.bind_some, decide_eq_false h1, if_neg Bool.false_ne_true, str43, prefix_eq b hb 43 (by omega), Option.bind_some, decide_eq_false h2, num_Of.j0, if_neg Bool.false_ne_true]
  exact hK k (by omega)
theorem extract_one (c : Int) (b : List Int) : (strOfNums (c :: b)).extract 1 (strOfNums (c :: b)).size = strOfNums b := by
  rw [str_extract, strOfNums_size]
  congr 1
  simp
theorem numOf_plus {b : List Int} (hb : Byt b) {r : Int × Bool} (h : Ev (fun k => num_Of.j1 k (strOfNums b) false) r) : Ev (fun k => num_Of.f k (strOfNums (43 :: b))) r := by
  have hb' : Byt (43 :: b) := fun c hc => by
    rcases List.mem_cons.1 hc with rfl | hc
    · omega
    · exact hb c hc
  obtain ⟨K, hK⟩ := h
  refine ⟨K + 1, fun k hk => ?_⟩
  obtain ⟨k, rfl⟩ : ∃ m, k = m + 1 := ⟨k - 1, by omega⟩
  show num_Of.f (k + 1) (strOfNums (43 :: b)) = _
  rw [num_Of.f, str45, prefix_eq _ hb' 45 (by omega), Option.bind_some, hd_cons, decide_eq_false (by omega), if_neg Bool.false_ne_true, str43, prefix_eq _ hb' 43 (by omega), Option.bind_some, hd_cons, decide_eq_true (by omega), num_Of.j0, if_pos rfl, if_pos (by rw [strOfNums_size, List.length_cons]; omega), extract_one]
  exact hK k (by omega)
theorem numOf_minus {b : List Int} (hb : Byt b) {r : Int × Bool} (h : Ev (fun k => num_Of.j1 k (strOfNums b) true) r) : Ev (fun k => num_Of.f k (strOfNums (45 :: b))) r := by
  have hb' : Byt (45 :: b) := fun c hc => by
    rcases List.mem_cons.1 hc with rfl | hc
    · omega
    · exact hb c hc
  obtain ⟨K, hK⟩ := h
  refine ⟨K + 1, fun k hk => ?_⟩
  obtain ⟨k, rfl⟩ : ∃ m, k = m + 1 := ⟨k - 1, by omega⟩
  show num_Of.f (k + 1) (strOfNums (45 :: b)) = _
  rw [num_Of.f, str45, prefix_eq _ hb' 45 (by omega), Option.bind_some, hd_cons, decide_eq_true (by omega), if_pos rfl, num_Of.j0, if_pos rfl, if_pos (by rw [strOfNums_size, List.length_cons]; omega), extract_one]
  exact hK k (by omega)
def sgT (c : Int) : List Int := if c = 43 then [43] else if c = 45 then [45] else []
theorem numOf_ev (c : Int) {b : List Int} (hb : Byt b) (h1 : hd b 0 ≠ 45) (h2 : hd b 0 ≠ 43) {r : Int × Bool} (h : Ev (fun k => num_Of.j1 k (strOfNums b) (decide (c = 45))) r) : Ev (fun k => num_Of.f k (strOfNums (sgT c ++ b))) r := by
  unfold sgT
  by_cases e1 : c = 43
  · rw [if_pos e1]
    rw [decide_eq_false (by omega)] at h
    exact numOf_plus hb h
  · rw [if_neg e1]
    by_cases e2 : c = 45
    · rw [if_pos e2]
      rw [decide_eq_true e2] at h
      exact numOf_minus hb h
    · rw [if_neg e2]
      rw [decide_eq_false e2] at h
      exact numOf_plain hb h1 h2 h
theorem unit_ev {l : List Int} {p : Nat} {s : List Int} (h : At l p s) (hl : l.length ≤ 1000000) {b : List Int} {n : Int} {ok : Bool} (whole : Bool) (hn : Ev (fun k => num_Of.f k (strOfNums b)) (n, ok)) :
    ∃ p', At l p' (unit n whole s).2 ∧ Ev (fun k => tok_scanner_amount.j3 k b whole l p) (flat (tokS (unit n whole s).1) (p' : Int)) := by
  obtain ⟨K, hK⟩ := hn
  have e0 : tok_scanner_at.f l p 0 = some (hd s 0, (p : Int)) := at_eq h hl 0 (by omega)
  have e1 : tok_scanner_name.f l p 0 = some (nam s 0, (p : Int)) := name_eq h hl 0 (by omega)
  cases hm : nam s 0
  · rw [hm] at e1
    by_cases hc : hd s 0 = 37
    · obtain ⟨r, rfl⟩ := ne_of_hd hc (by omega)
      have hlen := h.len
      simp only [List.length_cons] at hlen
      have hu : unit n whole (37 :: r) = ({ k := 7, n := n }, r) := by
        unfold unit
        rw [hm, if_neg Bool.false_ne_true, if_pos hc, List.drop_succ_cons, List.drop_zero]
      rw [hu]
      dsimp only
      refine ⟨p + 1, h.cons, K + 1, fun k hk => ?_⟩
      obtain ⟨k, rfl⟩ : ∃ m, k = m + 1 := ⟨k - 1, by omega⟩
      have e2 : num_Of.f k (strOfNums b) = some (n, ok) := hK k (by omega)
      show tok_scanner_amount.j3 (k + 1) b whole l p = _
      rw [tok_scanner_amount.j3, e2, Option.bind_some]
      dsimp only
      rw [e1, Option.bind_some]
      dsimp only
      rw [if_neg Bool.false_ne_true, e0, Option.bind_some]
      dsimp only
      rw [if_pos hc, wp p (by omega)]
      rfl
    · have hu : unit n whole s = ({ k := 6, n := n, w := whole }, s) := by
        unfold unit
        rw [hm, if_neg Bool.false_ne_true, if_neg hc]
      rw [hu]
      dsimp only
      refine ⟨p, h, K + 1, fun k hk => ?_⟩
      obtain ⟨k, rfl⟩ : ∃ m, k = m + 1 := ⟨k - 1, by omega⟩
      have e2 : num_Of.f k (strOfNums b) = some (n, ok) := hK k (by omega)
      show tok_scanner_amount.j3 (k + 1) b whole l p = _
      rw [tok_scanner_amount.j3, e2, Option.bind_some]
      dsimp only
      rw [e1, Option.bind_some]
      dsimp only
      rw [if_neg Bool.false_ne_true, e0, Option.bind_some]
      dsimp only
      rw [if_neg hc]
      rfl
  · rw [hm] at e1
    have hu : unit n whole s = ({ k := 8, n := n, t := (name s).1 }, (name s).2) := by
      unfold unit
      rw [hm, if_pos rfl]
    rw [hu]
    dsimp only
    obtain ⟨p', h1, K', h2⟩ := name_ev h hl
    refine ⟨p', h1, max K K' + 1, fun k hk => ?_⟩
    obtain ⟨k, rfl⟩ : ∃ m, k = m + 1 := ⟨k - 1, by omega⟩
    have e2 : num_Of.f k (strOfNums b) = some (n, ok) := hK k (by omega)
    have e3 : tok_scanner_points.f k l p = some (strOfNums (utf8 (name s).1), (p' : Int)) := h2 k (by omega)
    show tok_scanner_amount.j3 (k + 1) b whole l p = _
    rw [tok_scanner_amount.j3, e2, Option.bind_some]
    dsimp only
    rw [e1, Option.bind_some]
    dsimp only
    rw [if_pos rfl, e3, Option.bind_some]
    rfl
theorem takeWhile_D (s : List Int) : ∀ c ∈ s.takeWhile isD, isD c = true := fun c hc => by
  induction s with
  | nil => cases hc
  | cons d s ih =>
    rw [List.takeWhile_cons] at hc
    split at hc
    · next h =>
      rcases List.mem_cons.1 hc with rfl | hc
      · exact h
      · exact ih hc
    · cases hc
theorem takeWhile_len (s : List Int) : (s.takeWhile isD).length ≤ s.length := (List.takeWhile_prefix isD).length_le
theorem tw_len (s : List Int) : (s.takeWhile isD).length + (s.dropWhile isD).length = s.length := by
  rw [← List.length_append, List.takeWhile_append_dropWhile]
theorem sgT_len (c : Int) : (sgT c).length ≤ 1 := by
  unfold sgT
  repeat' split
  all_goals simp
theorem takeWhile_ne {s : List Int} (h : isD (hd s 0) = true) : s.takeWhile isD ≠ [] := by
  cases s with
  | nil => rw [hd_nil] at h; cases h
  | cons d s => rw [hd_cons] at h; rw [List.takeWhile_cons_of_pos h]; exact List.cons_ne_nil _ _
theorem takeWhile_none {s : List Int} (h : isD (hd s 0) = false) : s.takeWhile isD = [] ∧ s.dropWhile isD = s := by
  cases s with
  | nil => exact ⟨rfl, rfl⟩
  | cons d s =>
    rw [hd_cons] at h
    exact ⟨List.takeWhile_cons_of_neg (by rw [h]; exact Bool.false_ne_true), List.dropWhile_cons_of_neg (by rw [h]; exact Bool.false_ne_true)⟩
theorem hd_digits {w : List Int} (hw : ∀ c ∈ w, isD c = true) (t : List Int) (ht : t = [] ∨ ∃ f, t = 46 :: f) : hd (w ++ t) 0 ≠ 45 ∧ hd (w ++ t) 0 ≠ 43 := by
  cases w with
  | nil =>
    rcases ht with rfl | ⟨f, rfl⟩
    · rw [List.nil_append, hd_nil]; omega
    · rw [List.nil_append, hd_cons]; omega
  | cons d w =>
    have := of_decide_eq_true (hw d (by simp))
    rw [List.cons_append, hd_cons]; omega
theorem amt_ev {l : List Int} {p : Nat} {s : List Int} (h : At l p s) (hl : l.length ≤ 1000000) (c : Int) (hp : (sgT c).length ≤ p) (hnum : numAt s 0 = true) :
    ∃ p', At l p' (amt (decide (c = 45)) s).2 ∧ Ev (fun k => tok_scanner_amount.j1 k (sgT c) l p) (flat (tokS (amt (decide (c = 45)) s).1) (p' : Int)) := by
  have hlen := h.len
  obtain ⟨p1, a1, K1, f1⟩ := figs_ev hl s p (sgT c) h (by omega)
  have hw := takeWhile_D s
  have hwl := takeWhile_len s
  have htw := tw_len s
  have hsl := sgT_len c
  have hnum' : isD (hd s 0) = true ∨ hd s 0 = 46 ∧ isD (hd s 1) = true := by
    unfold numAt at hnum
    rcases Bool.or_eq_true_iff.1 hnum with h1 | h1
    · exact .inl h1
    · obtain ⟨h2, h3⟩ := (Bool.and_eq_true _ _).mp h1
      exact .inr ⟨of_decide_eq_true h2, h3⟩
  have e0 : tok_scanner_at.f l p1 0 = some (hd (s.dropWhile isD) 0, (p1 : Int)) := at_eq a1 hl 0 (by omega)
  have e1 : tok_scanner_at.f l p1 1 = some (hd (s.dropWhile isD) 1, (p1 : Int)) := at_eq a1 hl 1 (by omega)
  have hlen1 := a1.len
  by_cases hcond : hd (s.dropWhile isD) 0 ≠ 46 ∨ isD (hd (s.dropWhile isD) 1) = false
  · have hu : amt (decide (c = 45)) s = unit (valN (decide (c = 45)) (s.takeWhile isD) []) true (s.dropWhile isD) := by unfold amt; rw [if_pos hcond]
    rw [hu]
    have hne : s.takeWhile isD ≠ [] := by
      rcases hnum' with h1 | ⟨h1, h2⟩
      · exact takeWhile_ne h1
      · have hd0 : isD (hd s 0) = false := by rw [h1]; rfl
        rw [(takeWhile_none hd0).2] at hcond
        rcases hcond with h3 | h3
        · exact absurd h1 h3
        · rw [h2] at h3; cases h3
    have hsg := hd_digits hw [] (.inl rfl)
    rw [List.append_nil] at hsg
    have hn := numOf_ev c (digits_byt hw) hsg.1 hsg.2 (j1_none (decide (c = 45)) _ hw (by omega) hne)
    obtain ⟨p', u1, K2, u2⟩ := unit_ev a1 hl true hn
    refine ⟨p', u1, max K1 K2 + 2, fun k hk => ?_⟩
    obtain ⟨k, rfl⟩ : ∃ m, k = m + 1 := ⟨k - 1, by omega⟩
    obtain ⟨k, rfl⟩ : ∃ m, k = m + 1 := ⟨k - 1, by omega⟩
    have g1 : tok_scanner_figures.f (k + 1) l p (sgT c) = some (sgT c ++ s.takeWhile isD, (p1 : Int)) := f1 (k + 1) (by omega)
    have g2 : tok_scanner_amount.j3 k (sgT c ++ s.takeWhile isD) true l p1 = some (flat (tokS (unit (valN (decide (c = 45)) (s.takeWhile isD) []) true (s.dropWhile isD)).1) (p' : Int)) := u2 k (by omega)
    show tok_scanner_amount.j1 (k + 1 + 1) (sgT c) l p = _
    rw [tok_scanner_amount.j1, g1, Option.bind_some]
    dsimp only
    rw [e0, Option.bind_some]
    dsimp only
    by_cases h46 : hd (s.dropWhile isD) 0 = 46
    · have hdf := hcond.resolve_left (fun h => h h46)
      rw [if_pos h46, e1, Option.bind_some]
      dsimp only
      rw [digit_eq, Option.bind_some, hdf, tok_scanner_amount.j2, Bool.not_false, if_pos rfl]
      exact g2
    · rw [if_neg h46, tok_scanner_amount.j2, if_pos rfl]
      exact g2
  · have h46 : hd (s.dropWhile isD) 0 = 46 := Classical.byContradiction fun h => hcond (.inl h)
    have hdt : isD (hd (s.dropWhile isD) 1) = true := by
      cases hh : isD (hd (s.dropWhile isD) 1)
      · exact absurd (.inr hh) hcond
      · rfl
    have hu : amt (decide (c = 45)) s = unit (valN (decide (c = 45)) (s.takeWhile isD) (((s.dropWhile isD).drop 1).takeWhile isD)) false (((s.dropWhile isD).drop 1).dropWhile isD) := by unfold amt; rw [if_neg hcond]
    rw [hu]
    obtain ⟨r, hr⟩ := ne_of_hd h46 (by omega)
    rw [hr] at a1 hdt hlen1 htw ⊢
    rw [List.drop_succ_cons, List.drop_zero]
    rw [hd_succ] at hdt
    simp only [List.length_cons] at hlen1 htw
    have hf := takeWhile_D r
    have hfl := takeWhile_len r
    obtain ⟨p2, a2, K2, f2⟩ := figs_ev hl r (p1 + 1) (sgT c ++ s.takeWhile isD ++ [46]) a1.cons (by simp only [List.length_append, List.length_cons, List.length_nil]; omega)
    have hsg := hd_digits hw (46 :: r.takeWhile isD) (.inr ⟨_, rfl⟩)
    have hbyt : Byt (s.takeWhile isD ++ 46 :: r.takeWhile isD) := fun d hd => by
      rcases List.mem_append.1 hd with hd | hd
      · exact digits_byt hw d hd
      · rcases List.mem_cons.1 hd with rfl | hd
        · omega
        · exact digits_byt hf d hd
    have hn := numOf_ev c hbyt hsg.1 hsg.2 (j1_some (decide (c = 45)) _ _ hw hf (by omega) (by omega) (takeWhile_ne hdt))
    obtain ⟨p', u1, K3, u2⟩ := unit_ev a2 hl false hn
    refine ⟨p', u1, max K1 (max K2 K3) + 2, fun k hk => ?_⟩
    obtain ⟨k, rfl⟩ : ∃ m, k = m + 1 := ⟨k - 1, by omega⟩
    obtain ⟨k, rfl⟩ : ∃ m, k = m + 1 := ⟨k - 1, by omega⟩
    have g1 : tok_scanner_figures.f (k + 1) l p (sgT c) = some (sgT c ++ s.takeWhile isD, (p1 : Int)) := f1 (k + 1) (by omega)
    have g3 : tok_scanner_figures.f k l ((p1 + 1 : Nat) : Int) (sgT c ++ s.takeWhile isD ++ [46]) = some (sgT c ++ s.takeWhile isD ++ [46] ++ r.takeWhile isD, (p2 : Int)) := f2 k (by omega)
    rw [show sgT c ++ s.takeWhile isD ++ [46] ++ r.takeWhile isD = sgT c ++ (s.takeWhile isD ++ 46 :: r.takeWhile isD) by simp] at g3
    have g2 : tok_scanner_amount.j3 k (sgT c ++ (s.takeWhile isD ++ 46 :: r.takeWhile isD)) false l p2 = some (flat (tokS (unit (valN (decide (c = 45)) (s.takeWhile isD) (r.takeWhile isD)) false (r.dropWhile isD)).1) (p' : Int)) := u2 k (by omega)
    rw [hr] at e0 e1
    rw [hd_cons] at e0
    rw [hd_succ] at e1
    show tok_scanner_amount.j1 (k + 1 + 1) (sgT c) l p = _
    rw [tok_scanner_amount.j1, g1, Option.bind_some]
    dsimp only
    rw [e0, Option.bind_some]
    dsimp only
    rw [if_pos rfl, e1, Option.bind_some]
    dsimp only
    rw [digit_eq, Option.bind_some, hdt, tok_scanner_amount.j2, Bool.not_true, if_neg Bool.false_ne_true, if_pos (by rw [List.length_append]; omega), wp p1 (by omega), g3, Option.bind_some]
    exact g2
theorem numAt_drop (s : List Int) : numAt (s.drop 1) 0 = numAt s 1 := by
  unfold numAt
  rw [hd_drop, hd_drop]
theorem amount_ev {l : List Int} {p : Nat} {s : List Int} (h : At l p s) (hl : l.length ≤ 1000000) (hnum : num s = true) :
    ∃ p', At l p' (amount s).2 ∧ Ev (fun k => tok_scanner_amount.f k l p) (flat (tokS (amount s).1) (p' : Int)) := by
  have hlen := h.len
  have e0 : tok_scanner_at.f l p 0 = some (hd s 0, (p : Int)) := at_eq h hl 0 (by omega)
  unfold amount
  unfold num at hnum
  cases hs : sgn s
  · rw [if_neg Bool.false_ne_true]
    rw [hs, if_neg Bool.false_ne_true] at hnum
    have hs' := of_decide_eq_false hs
    have hsg : sgT (hd s 0) = [] := by unfold sgT; rw [if_neg (by omega), if_neg (by omega)]
    obtain ⟨p', a1, K, f1⟩ := amt_ev h hl (hd s 0) (by rw [hsg]; simp) hnum
    refine ⟨p', a1, K + 1, fun k hk => ?_⟩
    obtain ⟨k, rfl⟩ : ∃ m, k = m + 1 := ⟨k - 1, by omega⟩
    have g1 := f1 k (by omega)
    rw [hsg] at g1
    show tok_scanner_amount.f (k + 1) l p = _
    rw [tok_scanner_amount.f, e0, Option.bind_some]
    dsimp only
    rw [if_neg (by omega), e0, Option.bind_some]
    dsimp only
    rw [tok_scanner_amount.j0, beq_eq_false_iff_ne.2 (by omega : hd s 0 ≠ 45), if_neg Bool.false_ne_true]
    exact g1
  · rw [if_pos rfl]
    rw [hs, if_pos rfl, ← numAt_drop] at hnum
    have hs' := of_decide_eq_true hs
    obtain ⟨c, r, rfl⟩ := cons_of_hd (s := s) (by omega)
    rw [hd_cons] at hs' e0 ⊢
    rw [List.drop_succ_cons, List.drop_zero] at hnum ⊢
    simp only [List.length_cons] at hlen
    have hsg : sgT c = [c] := by
      unfold sgT
      rcases hs' with rfl | rfl
      · rfl
      · rfl
    obtain ⟨p', a1, K, f1⟩ := amt_ev h.cons hl c (by rw [hsg]; simp) hnum
    refine ⟨p', a1, K + 1, fun k hk => ?_⟩
    obtain ⟨k, rfl⟩ : ∃ m, k = m + 1 := ⟨k - 1, by omega⟩
    have g1 := f1 k (by omega)
    rw [hsg] at g1
    have hj : tok_scanner_amount.j0 (k + 1) [] true l p = tok_scanner_amount.j1 k [c] l ((p + 1 : Nat) : Int) := by
      rw [tok_scanner_amount.j0, if_pos rfl, e0, Option.bind_some]
      dsimp only
      rw [if_pos (by simp), wp p (by omega), List.nil_append, show c % 256 = c by omega]
    show tok_scanner_amount.f (k + 1) l p = _
    rw [tok_scanner_amount.f, e0, Option.bind_some]
    dsimp only
    rcases hs' with rfl | rfl
    · rw [if_pos rfl, hj]
      exact g1
    · rw [if_neg (by omega), e0, Option.bind_some]
      dsimp only
      rw [show ((45 : Int) == 45) = true from rfl, hj]
      exact g1
end Go.Proofs.YtplkkmmojanclaaDoor.Tk
