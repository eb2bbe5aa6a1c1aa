/- Part of the proof; printed or typed in this session; unused declarations and remarks struck by a program (wip/prune.py). -/
import Derived.Test.YtplkkmmojanclaaDoorCQ24
import Derived.Test.YtplkkmmojanclaaDoorCSplit
set_option linter.all false
namespace Go.Proofs.YtplkkmmojanclaaDoor.Pure
open Go.RowKit Go.Proofs.YtplkkmmojanclaaDoor.My Go.Proofs.YtplkkmmojanclaaDoor.Q Go.Proofs.YtplkkmmojanclaaDoor.Tk Go.Proofs.YtplkkmmojanclaaDoorW.PrintWords Go.Proofs.YtplkkmmojanclaaDoorW.PrintLast
def cleanB (d : Int) : Prop := d ≠ 34 ∧ d ≠ 39 ∧ d ≠ 92 ∧ d ≠ 47
theorem tks_semi {B : List Int} (hv : AllV B) (hw : isW (hd B 0) = false) : tks (59 :: 32 :: B) = { k := 12 } :: { k := 9 } :: tks B := by
  have v59 : Vld 59 := by unfold Vld; omega
  have v32 : Vld 32 := by unfold Vld; omega
  have hv1 : AllV (32 :: B) := fun c hc => by
    rcases List.mem_cons.1 hc with rfl | hc
    · exact v32
    · exact hv c hc
  have hv2 : AllV (59 :: 32 :: B) := fun c hc => by
    rcases List.mem_cons.1 hc with rfl | hc
    · exact v59
    · exact hv1 c hc
  have h1 : tok (59 :: 32 :: B) = ({ k := 12 }, 32 :: B) := by
    rw [tok_sign rfl (by omega) (by omega) (fun e => by omega) (fun e => by omega) (num_off (by omega) (by omega) rfl (fun e => by omega)) (by
      unfold nam
      rw [hd_cons, if_neg (by omega), esc_cons_ne (by omega)]
      rfl)]
    rfl
  have h2 : tok (32 :: B) = ({ k := 9 }, B) := by
    rw [tok_white rfl, List.dropWhile_cons_of_pos (show isW 32 = true from rfl)]
    cases B with
    | nil => rfl
    | cons d B => rw [hd_cons] at hw; rw [List.dropWhile_cons_of_neg (by rw [hw]; exact Bool.false_ne_true)]
  rw [tks_tok hv2 (List.cons_ne_nil _ _) (by rw [hd_cons]; omega), h1, tks_tok hv1 (List.cons_ne_nil _ _) (by rw [hd_cons]; omega), h2]
theorem hd_prep {b : List Int} (hb : Byt b) (h : ∀ x r, b = x :: r → x ≠ 10 ∧ x ≠ 13 ∧ x ≠ 12 ∧ x ≠ 9 ∧ x ≠ 32) : isW (hd ((prep b).map cp) 0) = false := by
  cases b with
  | nil => rfl
  | cons x r =>
    have hx := h x r rfl
    have hbx := hb x (by simp)
    unfold prep
    rw [pts_cons, prepF]
    have hd1 : ((dec (x :: r)).1 : Int) = x ∨ 128 ≤ ((dec (x :: r)).1 : Int) := by
      by_cases h128 : (dec (x :: r)).1 < 128
      · left
        have e : (dec (x :: r)).1 = byteAt (x :: r) 0 := by
          rw [dec_eq] at h128 ⊢
          exact decodeN_small _ _ _ _ _ h128
        rw [e, byteAt_lt (by simp)]
        simp only [List.getElem_cons_zero]
        exact u8_nat hbx
      · right; omega
    generalize ((dec (x :: r)).1 : Int) = y at hd1
    have hs : prepStep 0 y = [y] ∨ prepStep 0 y = [65533] := by
      unfold prepStep
      rw [if_neg (show ¬ (y = 10 ∧ (0 : Int) = 13) from fun e => by omega), if_neg (show ¬ (y = 13 ∨ y = 12) from fun e => by omega)]
      split
      · exact .inr rfl
      · exact .inl rfl
    have hcp : cp y = y ∨ cp y = 65533 := by unfold cp; split <;> simp
    rcases hs with e | e
    · rw [e, List.singleton_append, List.map_cons, hd_cons]
      unfold isW
      apply decide_eq_false
      rcases hcp with e2 | e2 <;> omega
    · rw [e, List.singleton_append, List.map_cons, hd_cons]
      rfl
theorem parts_toks (a b : List Int) (ha : Byt a) (hb : Byt b) (hca : ∀ d ∈ a, cleanB d) (hcb : ∀ x r, b = x :: r → x ≠ 10 ∧ x ≠ 13 ∧ x ≠ 12 ∧ x ≠ 9 ∧ x ≠ 32) :
    toksOf (a ++ [59, 32] ++ b) = toksOf (a ++ [59]) ++ [⟨9, (⟨#[]⟩ : ByteArray), 0, false, 0⟩] ++ toksOf b := by
  have hcl : Cln ((prep a).map cp) := cln_prep ha hca
  have hvB := (At.zero (prep b)).vld
  have hvA := (At.zero (prep a)).vld
  have e1 : (prep (a ++ [59, 32] ++ b)).map cp = (prep a).map cp ++ 59 :: 32 :: (prep b).map cp := by
    rw [show a ++ [59, 32] ++ b = a ++ 59 :: 32 :: b by simp, prep_split (by omega) (by omega), prep_cons (by omega) (by omega), prep_cons (by omega) (by omega), List.map_append, List.map_cons, List.map_cons]
    rfl
  have e2 : (prep (a ++ [59])).map cp = (prep a).map cp ++ [59] := by
    rw [prep_split (by omega) (by omega), prep_cons (by omega) (by omega), List.map_append, List.map_cons]
    rfl
  have v59 : Vld 59 := by unfold Vld; omega
  have v32 : Vld 32 := by unfold Vld; omega
  have s1 := tks_split (c := 59) (r := 32 :: (prep b).map cp) (.inr rfl) _ _ (Nat.le_refl _) hcl (fun c hc => by
    rcases List.mem_append.1 hc with hc | hc
    · exact hvA c hc
    · rcases List.mem_cons.1 hc with rfl | hc
      · exact v59
      · rcases List.mem_cons.1 hc with rfl | hc
        · exact v32
        · exact hvB c hc)
  have s2 := tks_split (c := 59) (r := []) (.inr rfl) _ _ (Nat.le_refl _) hcl (fun c hc => by
    rcases List.mem_append.1 hc with hc | hc
    · exact hvA c hc
    · rcases List.mem_cons.1 hc with rfl | hc
      · exact v59
      · cases hc)
  have s3 : tks [59] = [{ k := 12 }] := by decide +kernel
  unfold toksOf
  rw [e1, e2, s1, s2, s3, tks_semi hvB (hd_prep hb hcb)]
  simp only [List.map_append, List.map_cons, List.map_nil, List.append_assoc, List.cons_append, List.nil_append]
  rfl
theorem parts_j3 (a b : List Int) (ha : Byt a) (hb : Byt b) (hla : a.length ≤ 500) (hlb : b.length ≤ 500) (hca : ∀ d ∈ a, cleanB d) (hcb : ∀ x r, b = x :: r → x ≠ 10 ∧ x ≠ 13 ∧ x ≠ 12 ∧ x ≠ 9 ∧ x ≠ 32) :
    Ev (fun k => tapestrierlaw4_TokParts.j3 k a b) true := by
  have h59 : Byt [59] := fun c hc => by simp at hc; omega
  have h5932 : Byt [59, 32] := fun c hc => by simp at hc; omega
  have b1 := bytesOf_app a [59] ha h59
  have b2 := bytesOf_app _ b (bytesOf_app a [59, 32] ha h5932) hb
  obtain ⟨K1, f1⟩ := of_ev (a ++ [59]) b1 (by simp; omega)
  obtain ⟨K2, f2⟩ := of_ev b hb (by omega)
  obtain ⟨K3, f3⟩ := of_ev (a ++ [59, 32] ++ b) b2 (by simp; omega)
  have l1 := toksOf_len (a ++ [59])
  have l2 := toksOf_len b
  have l3 := toksOf_len (a ++ [59, 32] ++ b)
  simp only [List.length_append, List.length_cons, List.length_nil] at l1 l3
  refine ⟨max K1 (max K2 K3) + 3000, fun k hk => ?_⟩
  obtain ⟨k, rfl⟩ : ∃ m, k = m + 1 := ⟨k - 1, by omega⟩
  have g1 : tapestrierlaw4_Of.f k (a ++ [59]) = some (toksOf (a ++ [59])) := f1 k (by omega)
  have g2 : tapestrierlaw4_Of.f k b = some (toksOf b) := f2 k (by omega)
  have g3 : tapestrierlaw4_Of.f k (a ++ [59, 32] ++ b) = some (toksOf (a ++ [59, 32] ++ b)) := f3 k (by omega)
  have eb : Go.Proofs.YtplkkmmojanclaaDoorW.PrintWords.bytesOf (⟨#[59, 32]⟩ : ByteArray) = [59, 32] := bytesOf_str [59, 32] h5932
  show tapestrierlaw4_TokParts.j3 (k + 1) a b = _
  rw [tapestrierlaw4_TokParts.j3, List.length_nil, if_pos (by omega), Option.bind_some, List.nil_append, if_pos (by omega), g1, Option.bind_some, g2, Option.bind_some, Option.bind_some, if_pos (by omega), Option.bind_some, eb, List.length_append, List.length_cons, List.length_cons, List.length_nil, if_pos (by omega), g3, Option.bind_some, List.length_nil, if_pos (by omega), Option.bind_some, List.nil_append, if_pos (by omega), Option.bind_some, List.length_append, List.length_cons, List.length_nil, if_pos (by omega), parts_toks a b ha hb hca hcb]
  have hs := same_ev (toksOf (a ++ [59]) ++ [⟨9, (⟨#[]⟩ : ByteArray), 0, false, 0⟩] ++ toksOf b) (by simp only [List.length_append, List.length_cons, List.length_nil]; omega) k (by simp only [List.length_append, List.length_cons, List.length_nil]; omega)
  rw [hs, Option.bind_some]
theorem parts_l1 (a b : List Int) (ha : Byt a) (hb : Byt b) (hla : a.length ≤ 500) (hlb : b.length ≤ 500) (hca : ∀ d ∈ a, cleanB d) : Ev (fun k => tapestrierlaw4_TokParts.l1 k a b 0) true := by
  cases b with
  | nil =>
    obtain ⟨K, f⟩ := parts_j3 a [] ha hb hla hlb hca (fun x r e => by cases e)
    refine ⟨K + 1, fun k hk => ?_⟩
    obtain ⟨k, rfl⟩ : ∃ m, k = m + 1 := ⟨k - 1, by omega⟩
    show tapestrierlaw4_TokParts.l1 (k + 1) a [] 0 = _
    rw [tapestrierlaw4_TokParts.l1, if_neg (by simp)]
    exact f k (by omega)
  | cons x r =>
    have e0 : rd (x :: r) 0 = x := rfl
    by_cases hx : x ≠ 10 ∧ x ≠ 13 ∧ x ≠ 12 ∧ x ≠ 9 ∧ x ≠ 32
    · obtain ⟨K, f⟩ := parts_j3 a (x :: r) ha hb hla hlb hca (fun y q e => by injection e with e1 _; rw [← e1]; exact hx)
      refine ⟨K + 1, fun k hk => ?_⟩
      obtain ⟨k, rfl⟩ : ∃ m, k = m + 1 := ⟨k - 1, by omega⟩
      show tapestrierlaw4_TokParts.l1 (k + 1) a (x :: r) 0 = _
      rw [tapestrierlaw4_TokParts.l1, if_pos (by simp only [List.length_cons]; omega), if_pos (by omega), e0, if_neg hx.1, if_neg hx.2.1, if_neg hx.2.2.1, if_neg hx.2.2.2.1, if_neg hx.2.2.2.2]
      exact f k (by omega)
    · refine ⟨1, fun k hk => ?_⟩
      obtain ⟨k, rfl⟩ : ∃ m, k = m + 1 := ⟨k - 1, by omega⟩
      show tapestrierlaw4_TokParts.l1 (k + 1) a (x :: r) 0 = _
      rw [tapestrierlaw4_TokParts.l1, if_pos (by simp only [List.length_cons]; omega), if_pos (by omega), e0]
      by_cases c1 : x = 10
      · rw [if_pos c1]
      · rw [if_neg c1]
        by_cases c2 : x = 13
        · rw [if_pos c2]
        · rw [if_neg c2]
          by_cases c3 : x = 12
          · rw [if_pos c3]
          · rw [if_neg c3]
            by_cases c4 : x = 9
            · rw [if_pos c4]
            · rw [if_neg c4, if_pos (by omega)]
theorem parts_loop (a b : List Int) (ha : Byt a) (hb : Byt b) (hla : a.length ≤ 500) (hlb : b.length ≤ 500) : ∀ (d i : Nat), i + d = a.length → (∀ j, (h : j < a.length) → j < i → cleanB a[j]) → Ev (fun k => tapestrierlaw4_TokParts.l0 k a b (i : Int)) true := by
  intro d
  induction d with
  | zero =>
    intro i hi hok
    have hL : ∀ c ∈ a, cleanB c := fun c hc => by
      obtain ⟨j, hj, rfl⟩ := List.getElem_of_mem hc
      exact hok j hj (by omega)
    obtain ⟨K, f⟩ := parts_l1 a b ha hb hla hlb hL
    refine ⟨K + 1, fun k hk => ?_⟩
    obtain ⟨k, rfl⟩ : ∃ m, k = m + 1 := ⟨k - 1, by omega⟩
    show tapestrierlaw4_TokParts.l0 (k + 1) a b (i : Int) = _
    rw [tapestrierlaw4_TokParts.l0, if_neg (by omega)]
    exact f k (by omega)
  | succ d ih =>
    intro i hi hok
    have hlt : i < a.length := by omega
    by_cases hc : cleanB a[i]
    · obtain ⟨K, f⟩ := ih (i + 1) (by omega) (fun j hj hji => by
        by_cases e : j = i
        · subst e; exact hc
        · exact hok j hj (by omega))
      refine ⟨K + 1, fun k hk => ?_⟩
      obtain ⟨k, rfl⟩ : ∃ m, k = m + 1 := ⟨k - 1, by omega⟩
      unfold cleanB at hc
      show tapestrierlaw4_TokParts.l0 (k + 1) a b (i : Int) = _
      rw [tapestrierlaw4_TokParts.l0, if_pos (by omega), if_pos (by omega), rd_at hlt, if_neg hc.1, if_neg hc.2.1, if_neg hc.2.2.1, if_neg hc.2.2.2, wp i (by omega)]
      exact f k (by omega)
    · refine ⟨1, fun k hk => ?_⟩
      obtain ⟨k, rfl⟩ : ∃ m, k = m + 1 := ⟨k - 1, by omega⟩
      unfold cleanB at hc
      show tapestrierlaw4_TokParts.l0 (k + 1) a b (i : Int) = _
      rw [tapestrierlaw4_TokParts.l0, if_pos (by omega), if_pos (by omega), rd_at hlt]
      by_cases c1 : a[i] = 34
      · rw [if_pos c1]
      · rw [if_neg c1]
        by_cases c2 : a[i] = 39
        · rw [if_pos c2]
        · rw [if_neg c2]
          by_cases c3 : a[i] = 92
          · rw [if_pos c3]
          · rw [if_neg c3, if_pos (by omega)]
theorem TokParts : tapestrierlaw4_TokParts.Pure := by
  intro a b _ _ hwa _ _ hwb
  refine Ev.rounds (g := fun k => tapestrierlaw4_TokParts.f k a b) ?_
  have ha : Byt a := fun c hc => wf_u8 (hwa c hc)
  have hb : Byt b := fun c hc => wf_u8 (hwb c hc)
  by_cases hl : a.length ≤ 500 ∧ b.length ≤ 500
  · obtain ⟨K, f⟩ := parts_loop a b ha hb hl.1 hl.2 a.length 0 (by omega) (fun j _ h => by omega)
    refine ⟨K + 30, fun k hk => ?_⟩
    obtain ⟨k, rfl⟩ : ∃ m, k = m + 1 := ⟨k - 1, by omega⟩
    show tapestrierlaw4_TokParts.f (k + 1) a b = _
    rw [tapestrierlaw4_TokParts.f, alive_at (k + 1) (by omega), Option.bind_some, if_pos rfl, if_neg (by omega), tapestrierlaw4_TokParts.j0, if_neg (by simp; omega)]
    exact f k (by omega)
  · refine ⟨30, fun k hk => ?_⟩
    obtain ⟨k, rfl⟩ : ∃ m, k = m + 1 := ⟨k - 1, by omega⟩
    show tapestrierlaw4_TokParts.f (k + 1) a b = _
    rw [tapestrierlaw4_TokParts.f, alive_at (k + 1) (by omega), Option.bind_some, if_pos rfl]
    by_cases c1 : (a.length : Int) > 500
    · rw [if_pos c1, tapestrierlaw4_TokParts.j0, if_pos rfl]
    · rw [if_neg c1, tapestrierlaw4_TokParts.j0, if_pos (by simp; omega)]
end Go.Proofs.YtplkkmmojanclaaDoor.Pure
