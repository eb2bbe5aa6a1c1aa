/- Part of the proof; printed or typed in this session; unused declarations and remarks struck by a program (wip/prune.py). -/
import Derived.Test.YtplkkmmojanclaaDoorCQ18
import Derived.Test.YtplkkmmojanclaaDoorCKit
set_option linter.all false
namespace Go.Proofs.YtplkkmmojanclaaDoor.Pure
open Go.RowKit Go.Proofs.YtplkkmmojanclaaDoor.My Go.Proofs.YtplkkmmojanclaaDoor.Q Go.Proofs.YtplkkmmojanclaaDoor.Tk Go.Proofs.YtplkkmmojanclaaDoorW.PrintWords Go.Proofs.YtplkkmmojanclaaDoorW.PrintLast
def letter (c : Int) : Prop := 97 ≤ c ∧ c ≤ 122 ∨ 65 ≤ c ∧ c ≤ 90
theorem name_loop (L : List Int) (hb : Byt L) (hl : L.length ≤ 140737488351232) : ∀ (d i : Nat), i + d = L.length → (∀ j, (h : j < L.length) → j < i → letter L[j]) →
    ∃ b : Bool, Ev (fun k => tapestrierlaw4_name.l0 k (strOfNums L) (i : Int)) b ∧ (b = true → (∀ c ∈ L, letter c) ∧ L ≠ [] ∧ L.length < 60) := by
  have sL : (strOfNums L).size = L.length := strOfNums_size L
  intro d
  induction d with
  | zero =>
    intro i hi hok
    have hL : ∀ c ∈ L, letter c := fun c hc => by
      obtain ⟨j, hj, rfl⟩ := List.getElem_of_mem hc
      exact hok j hj (by omega)
    by_cases hne : L = []
    · refine ⟨false, ⟨1, fun k hk => ?_⟩, fun h => by cases h⟩
      obtain ⟨k, rfl⟩ : ∃ m, k = m + 1 := ⟨k - 1, by omega⟩
      show tapestrierlaw4_name.l0 (k + 1) (strOfNums L) (i : Int) = _
      rw [tapestrierlaw4_name.l0, if_neg (by rw [sL]; omega), if_pos (by rw [hne, toList_str]; rfl)]
    · refine ⟨decide (L.length < 60), ⟨1, fun k hk => ?_⟩, fun h => ⟨hL, hne, of_decide_eq_true h⟩⟩
      obtain ⟨k, rfl⟩ : ∃ m, k = m + 1 := ⟨k - 1, by omega⟩
      show tapestrierlaw4_name.l0 (k + 1) (strOfNums L) (i : Int) = _
      rw [tapestrierlaw4_name.l0, if_neg (by rw [sL]; omega), if_neg (toList_ne hne), sL]
      congr 1
      apply decide_eq_decide.2
      omega
  | succ d ih =>
    intro i hi hok
    have hlt : i < L.length := by omega
    have hbi := hb L[i] (List.getElem_mem hlt)
    by_cases hc : letter L[i]
    · obtain ⟨b, ⟨K, f⟩, hb2⟩ := ih (i + 1) (by omega) (fun j hj hji => by
        by_cases e : j = i
        · subst e; exact hc
        · exact hok j hj (by omega))
      refine ⟨b, ⟨K + 1, fun k hk => ?_⟩, hb2⟩
      obtain ⟨k, rfl⟩ : ∃ m, k = m + 1 := ⟨k - 1, by omega⟩
      have hw : wrap64 ((i : Int) + 1) = ((i + 1 : Nat) : Int) := by rw [w64 (by omega) (by omega)]; omega
      have g := f k (by omega)
      show tapestrierlaw4_name.l0 (k + 1) (strOfNums L) (i : Int) = _
      rw [tapestrierlaw4_name.l0, if_pos (by rw [sL]; omega), if_pos (by omega), bt_str L hb hlt, hw]
      unfold letter at hc
      by_cases c1 : L[i] ≥ 97
      · rw [if_pos c1, if_pos (by omega)]; exact g
      · rw [if_neg c1, if_pos (by omega), if_pos (by omega)]; exact g
    · refine ⟨false, ⟨1, fun k hk => ?_⟩, fun h => by cases h⟩
      obtain ⟨k, rfl⟩ : ∃ m, k = m + 1 := ⟨k - 1, by omega⟩
      unfold letter at hc
      show tapestrierlaw4_name.l0 (k + 1) (strOfNums L) (i : Int) = _
      rw [tapestrierlaw4_name.l0, if_pos (by rw [sL]; omega), if_pos (by omega), bt_str L hb hlt]
      by_cases c1 : L[i] ≥ 97
      · rw [if_pos c1, if_neg (by omega), if_pos (by omega), if_neg (by omega)]
      · rw [if_neg c1]
        by_cases c2 : L[i] ≥ 65
        · rw [if_pos c2, if_neg (by omega)]
        · rw [if_neg c2]
theorem names_j1 (L a b : List Int) (i : Int) (A B : List ByteArray) (W : List (List S31)) (h0 : 0 ≤ i) (hA : i < (A.length : Int)) (hB : i < (B.length : Int)) (hW : i < (W.length : Int)) (eA : rdOf ByteArray.empty A i = strOfNums a) (eB : rdOf ByteArray.empty B i = strOfNums b)
    (hp : Pln (a ++ L ++ b)) (hl : (a ++ L ++ b).length ≤ 1000) (eW : rd_L5 W i = toksOf (a ++ L ++ b)) : Ev (fun k => tapestrierlaw4_TokNames.j1 k (strOfNums L) i A B W false) true := by
  obtain ⟨K, f⟩ := of_ev (a ++ L ++ b) hp.byt (by omega)
  have ht := toksOf_len (a ++ L ++ b)
  have hl' := hl
  simp only [List.length_append] at hl'
  refine ⟨K + 2000, fun k hk => ?_⟩
  obtain ⟨k, rfl⟩ : ∃ m, k = m + 1 := ⟨k - 1, by omega⟩
  have g : tapestrierlaw4_Of.f k (a ++ L ++ b) = some (toksOf (a ++ L ++ b)) := f k (by omega)
  show tapestrierlaw4_TokNames.j1 (k + 1) (strOfNums L) i A B W false = _
  rw [tapestrierlaw4_TokNames.j1, if_neg Bool.false_ne_true, if_pos h0, if_pos hA, eA, strOfNums_size, strOfNums_size, if_pos (by omega), if_pos hB, eB, str_append, strOfNums_size, strOfNums_size, List.length_append, if_pos (by omega), str_append, conv_ev _ hp.byt (by omega), Option.bind_some, g, Option.bind_some, if_pos hW, eW, same_ev _ (by omega) k (by omega), Option.bind_some]
section
variable {L : List Int}
theorem L_pln (hL : ∀ c ∈ L, letter c) : Pln L := fun c hc => by have := hL c hc; unfold letter at this; omega
theorem letter_S {c : Int} (h : letter c) : isS c = true := by unfold letter at h; unfold isS; apply decide_eq_true; omega
theorem L_P (hL : ∀ c ∈ L, letter c) : ∀ c ∈ L, isP c = true ∧ c ≠ 92 := fun c hc => by
  have h := hL c hc
  refine ⟨?_, by unfold letter at h; omega⟩
  unfold isP
  rw [letter_S h, Bool.true_or, Bool.true_or]
theorem letter_W {c : Int} (h : letter c) : isW c = false := by unfold letter at h; unfold isW; apply decide_eq_false; omega
theorem letter_D {c : Int} (h : letter c) : isD c = false := by unfold letter at h; unfold isD; apply decide_eq_false; omega
theorem tks_L (hL : ∀ c ∈ L, letter c) (hne : L ≠ []) : tks L = [{ k := 1, t := L }] := by
  obtain ⟨c, r, rfl⟩ : ∃ c r, L = c :: r := by
    cases L with
    | nil => exact absurd rfl hne
    | cons c r => exact ⟨c, r, rfl⟩
  have hc := hL c (by simp)
  have hc' := hc
  unfold letter at hc'
  have ht : tok (c :: r) = ({ k := 1, t := c :: r }, []) := by
    rw [tok_word (letter_W hc) (by omega) (by omega) (by omega) (by omega) (num_off (by omega) (by omega) (letter_D hc) (fun e => by omega)) (nam_S (letter_S hc))]
    have := word_app (r := []) (L_P hL) esc_nil (by rw [hd_nil]; rfl)
    rw [List.append_nil, hd_nil, if_neg (by omega)] at this
    exact this
  rw [tks_tok (L_pln hL).vld (List.cons_ne_nil _ _) (by rw [hd_cons]; omega), ht, tks_nil]
theorem tks_f (hL : ∀ c ∈ L, letter c) (hne : L ≠ []) : tks (L ++ [40]) = [{ k := 20, t := L }] := by
  obtain ⟨c, r, rfl⟩ : ∃ c r, L = c :: r := by
    cases L with
    | nil => exact absurd rfl hne
    | cons c r => exact ⟨c, r, rfl⟩
  have hc := hL c (by simp)
  have hc' := hc
  unfold letter at hc'
  have ht : tok (c :: r ++ [40]) = ({ k := 20, t := c :: r }, []) := by
    rw [List.cons_append, tok_word (letter_W hc) (by omega) (by omega) (by omega) (by omega) (num_off (by omega) (by omega) (letter_D hc) (fun e => by omega)) (nam_S (letter_S hc)), ← List.cons_append]
    have := word_app (r := [40]) (L_P hL) (esc_cons_ne (by omega)) (by rw [hd_cons]; rfl)
    rw [hd_cons, if_pos rfl] at this
    exact this
  rw [tks_tok ((L_pln hL).app (Pln.cons (by omega) Pln.nil)).vld (by simp) (by rw [List.cons_append, hd_cons]; omega), ht, tks_nil]
theorem tks_at (hL : ∀ c ∈ L, letter c) (hne : L ≠ []) : tks (64 :: L) = [{ k := 2, t := L }] := by
  have hn : name L = (L, []) := by
    have := name_app L [] (L_P hL) esc_nil (by rw [hd_nil]; rfl)
    rwa [List.append_nil] at this
  have hnm : nam (64 :: L) 1 = true := by
    cases L with
    | nil => exact absurd rfl hne
    | cons c r =>
      have hc := hL c (by simp)
      have hc' := hc
      unfold letter at hc'
      unfold nam
      rw [hd_succ, hd_cons, if_neg (by omega), letter_S hc, Bool.true_or]
  have ht : tok (64 :: L) = ({ k := 2, t := L }, []) := by
    rw [tok_eqn, hd_cons, show isW 64 = false from rfl, if_neg Bool.false_ne_true, if_neg (by omega), show decide ((64 : Int) = 35) = false from rfl, Bool.false_and]
    unfold tok2
    rw [if_neg Bool.false_ne_true, num_off (by omega) (by omega) rfl (fun e => by omega), if_neg Bool.false_ne_true, hd_cons, hnm, show (decide ((64 : Int) = 64) && true) = true from rfl]
    unfold tok3
    rw [if_pos rfl, List.drop_succ_cons, List.drop_zero, hn]
  rw [tks_tok (Pln.cons (by omega) (L_pln hL)).vld (List.cons_ne_nil _ _) (by rw [hd_cons]; omega), ht, tks_nil]
theorem tks_hash (hL : ∀ c ∈ L, letter c) (hne : L ≠ []) : tks (35 :: L) = [{ k := 3, t := L }] := by
  have hn : name L = (L, []) := by
    have := name_app L [] (L_P hL) esc_nil (by rw [hd_nil]; rfl)
    rwa [List.append_nil] at this
  have hp : isP (hd L 0) = true := by
    cases L with
    | nil => exact absurd rfl hne
    | cons c r => rw [hd_cons]; exact (L_P hL c (by simp)).1
  rw [tks_tok (Pln.cons (by omega) (L_pln hL)).vld (List.cons_ne_nil _ _) (by rw [hd_cons]; omega), tok_hash rfl hp, hn, tks_nil]
theorem tks_min (hL : ∀ c ∈ L, letter c) (hne : L ≠ []) : tks (45 :: L) = [{ k := 1, t := 45 :: L }] := by
  obtain ⟨c, r, rfl⟩ : ∃ c r, L = c :: r := by
    cases L with
    | nil => exact absurd rfl hne
    | cons c r => exact ⟨c, r, rfl⟩
  have hc := hL c (by simp)
  have hc' := hc
  unfold letter at hc'
  have hn : num (45 :: c :: r) = false := by
    rw [num_sgn (.inr rfl)]
    unfold numAt
    rw [hd_cons, letter_D hc, decide_eq_false (by omega), Bool.false_and, Bool.false_or]
  have hm : nam (45 :: c :: r) 0 = true := by
    unfold nam
    rw [hd_cons, if_pos rfl, hd_succ, hd_cons, letter_S hc, Bool.true_or, Bool.true_or]
  have ht : tok (45 :: c :: r) = ({ k := 1, t := 45 :: c :: r }, []) := by
    rw [tok_word rfl (by omega) (by omega) (by omega) (by omega) hn hm]
    have := word_app (L := 45 :: c :: r) (r := []) (fun d hd => by
      rcases List.mem_cons.1 hd with rfl | hd
      · exact ⟨rfl, by omega⟩
      · exact L_P hL d hd) esc_nil (by rw [hd_nil]; rfl)
    rw [List.append_nil, hd_nil, if_neg (by omega)] at this
    exact this
  rw [tks_tok (Pln.cons (by omega) (L_pln hL)).vld (List.cons_ne_nil _ _) (by rw [hd_cons]; omega), ht, tks_nil]
theorem tks_minmin (hL : ∀ c ∈ L, letter c) : tks (45 :: 45 :: L) = [{ k := 1, t := 45 :: 45 :: L }] := by
  have hn : num (45 :: 45 :: L) = false := by
    rw [num_sgn (.inr rfl)]
    unfold numAt
    rw [hd_cons]
    rfl
  have hm : nam (45 :: 45 :: L) 0 = true := by
    unfold nam
    rw [hd_cons, if_pos rfl, hd_succ, hd_cons]
    rfl
  have ht : tok (45 :: 45 :: L) = ({ k := 1, t := 45 :: 45 :: L }, []) := by
    rw [tok_word rfl (by omega) (by omega) (by omega) (by omega) hn hm]
    have := word_app (L := 45 :: 45 :: L) (r := []) (fun d hd => by
      rcases List.mem_cons.1 hd with rfl | hd
      · exact ⟨rfl, by omega⟩
      · rcases List.mem_cons.1 hd with rfl | hd
        · exact ⟨rfl, by omega⟩
        · exact L_P hL d hd) esc_nil (by rw [hd_nil]; rfl)
    rw [List.append_nil, hd_nil, if_neg (by omega)] at this
    exact this
  rw [tks_tok (Pln.cons (by omega) (Pln.cons (by omega) (L_pln hL))).vld (List.cons_ne_nil _ _) (by rw [hd_cons]; omega), ht, tks_nil]
theorem tks_dot (hL : ∀ c ∈ L, letter c) (hne : L ≠ []) : tks (46 :: L) = [{ k := 10, c := 46 }, { k := 1, t := L }] := by
  have hd1 : isD (hd L 0) = false := by
    cases L with
    | nil => exact absurd rfl hne
    | cons c r => rw [hd_cons]; exact letter_D (hL c (by simp))
  have hm : nam (46 :: L) 0 = false := by
    unfold nam
    rw [hd_cons, if_neg (by omega), esc_cons_ne (by omega)]
    rfl
  have ht : tok (46 :: L) = ({ k := 10, c := 46 }, L) := by
    rw [tok_sign rfl (by omega) (by omega) (fun e => by omega) (fun e => by omega) (num_off (by omega) (by omega) rfl (fun _ => hd1)) hm]
    rfl
  rw [tks_tok (Pln.cons (by omega) (L_pln hL)).vld (List.cons_ne_nil _ _) (by rw [hd_cons]; omega), ht, tks_L hL hne]
theorem tks_three (hL : ∀ c ∈ L, letter c) (hne : L ≠ []) : tks (51 :: L) = [{ k := 8, n := 3000, t := L }] := by
  obtain ⟨c, r, rfl⟩ : ∃ c r, L = c :: r := by
    cases L with
    | nil => exact absurd rfl hne
    | cons c r => exact ⟨c, r, rfl⟩
  have hc := hL c (by simp)
  have hc' := hc
  unfold letter at hc'
  have hn : name (c :: r) = (c :: r, []) := by
    have := name_app (c :: r) [] (L_P hL) esc_nil (by rw [hd_nil]; rfl)
    rwa [List.append_nil] at this
  have ht : tok (51 :: c :: r) = ({ k := 8, n := 3000, t := c :: r }, []) := by
    rw [tok_num rfl (by omega) (by omega) (by omega) (by
      unfold num sgn numAt
      rw [hd_cons]
      rfl)]
    unfold amount sgn
    rw [hd_cons, show decide ((51 : Int) = 43 ∨ (51 : Int) = 45) = false from rfl, if_neg Bool.false_ne_true]
    unfold amt
    rw [List.dropWhile_cons_of_pos (show isD 51 = true from rfl), List.takeWhile_cons_of_pos (show isD 51 = true from rfl), List.dropWhile_cons_of_neg (by rw [letter_D hc]; exact Bool.false_ne_true), List.takeWhile_cons_of_neg (by rw [letter_D hc]; exact Bool.false_ne_true)]
    rw [hd_cons, if_pos (.inl (by omega))]
    unfold unit
    rw [nam_S (letter_S hc), if_pos rfl, hn]
    rfl
  rw [tks_tok (Pln.cons (by omega) (L_pln hL)).vld (List.cons_ne_nil _ _) (by rw [hd_cons]; omega), ht, tks_nil]
end
theorem names_ok (L : List Int) (hL : ∀ c ∈ L, letter c) (hne : L ≠ []) (hl : L.length < 60) (w : Int) : Ev (fun k => tapestrierlaw4_TokNames.j0 k (strOfNums L) w true false) true := by
  have hu : utf8 L = L := utf8_ascii (fun c hc => (L_pln hL c hc).2)
  have hu1 : utf8 (45 :: L) = 45 :: L := utf8_ascii (fun c hc => ((Pln.cons (by omega) (L_pln hL)) c hc).2)
  have hu2 : utf8 (45 :: 45 :: L) = 45 :: 45 :: L := utf8_ascii (fun c hc => ((Pln.cons (by omega) (Pln.cons (by omega) (L_pln hL))) c hc).2)
  have tS : ∀ k n w c, tokS ⟨k, L, n, w, c⟩ = ⟨k, strOfNums L, n, w, c⟩ := fun k n w c => by unfold tokS; rw [hu]
  have pL := L_pln hL
  have key : ∀ (A B : List ByteArray) (W : List (List S31)), A = [(⟨#[]⟩ : ByteArray), (⟨#[64]⟩ : ByteArray), (⟨#[35]⟩ : ByteArray), (⟨#[]⟩ : ByteArray), (⟨#[45]⟩ : ByteArray), (⟨#[45, 45]⟩ : ByteArray), (⟨#[92]⟩ : ByteArray), (⟨#[46]⟩ : ByteArray), (⟨#[51]⟩ : ByteArray)] →
      B = [(⟨#[]⟩ : ByteArray), (⟨#[]⟩ : ByteArray), (⟨#[]⟩ : ByteArray), (⟨#[40]⟩ : ByteArray), (⟨#[]⟩ : ByteArray), (⟨#[]⟩ : ByteArray), (⟨#[]⟩ : ByteArray), (⟨#[]⟩ : ByteArray), (⟨#[]⟩ : ByteArray)] →
      W = [([⟨1, strOfNums L, 0, false, 0⟩] : List S31), [⟨2, strOfNums L, 0, false, 0⟩], [⟨3, strOfNums L, 0, false, 0⟩], [⟨20, strOfNums L, 0, false, 0⟩], [⟨1, (⟨#[45]⟩ : ByteArray) ++ strOfNums L, 0, false, 0⟩], [⟨1, (⟨#[45, 45]⟩ : ByteArray) ++ strOfNums L, 0, false, 0⟩], [], [⟨10, (⟨#[]⟩ : ByteArray), 0, false, 46⟩, ⟨1, strOfNums L, 0, false, 0⟩], [⟨8, strOfNums L, 3000, false, 0⟩]] →
      0 ≤ w → w < 9 → w ≠ 6 → Ev (fun k => tapestrierlaw4_TokNames.j1 k (strOfNums L) w A B W false) true := by
    intro A B W hA hB hW h0 h9 h6
    have e45 : (⟨#[45]⟩ : ByteArray) ++ strOfNums L = strOfNums (45 :: L) := by
      rw [show (⟨#[45]⟩ : ByteArray) = strOfNums [45] from rfl, str_append]; rfl
    have e4545 : (⟨#[45, 45]⟩ : ByteArray) ++ strOfNums L = strOfNums (45 :: 45 :: L) := by
      rw [show (⟨#[45, 45]⟩ : ByteArray) = strOfNums [45, 45] from rfl, str_append]; rfl
    have lA : (A.length : Int) = 9 := by rw [hA]; rfl
    have lB : (B.length : Int) = 9 := by rw [hB]; rfl
    have lW : (W.length : Int) = 9 := by rw [hW]; rfl
    have hcase : w = 0 ∨ w = 1 ∨ w = 2 ∨ w = 3 ∨ w = 4 ∨ w = 5 ∨ w = 7 ∨ w = 8 := by omega
    rcases hcase with rfl | rfl | rfl | rfl | rfl | rfl | rfl | rfl
    · refine names_j1 L [] [] 0 A B W h0 (by omega) (by omega) (by omega) (by rw [hA]; rfl) (by rw [hB]; rfl) (by simpa using pL) (by simp; omega) ?_
      rw [hW, show ([] : List Int) ++ L ++ [] = L by simp, toks_plain pL, tks_L hL hne]
      show _ = [tokS ⟨1, L, 0, false, 0⟩]
      rw [tS]
      rfl
    · have p := Pln.cons (c := 64) (by omega) pL
      refine names_j1 L [64] [] 1 A B W h0 (by omega) (by omega) (by omega) (by rw [hA]; rfl) (by rw [hB]; rfl) (by simpa using p) (by simp; omega) ?_
      rw [hW, show [64] ++ L ++ [] = 64 :: L by simp, toks_plain p, tks_at hL hne]
      show _ = [tokS ⟨2, L, 0, false, 0⟩]
      rw [tS]
      rfl
    · have p := Pln.cons (c := 35) (by omega) pL
      refine names_j1 L [35] [] 2 A B W h0 (by omega) (by omega) (by omega) (by rw [hA]; rfl) (by rw [hB]; rfl) (by simpa using p) (by simp; omega) ?_
      rw [hW, show [35] ++ L ++ [] = 35 :: L by simp, toks_plain p, tks_hash hL hne]
      show _ = [tokS ⟨3, L, 0, false, 0⟩]
      rw [tS]
      rfl
    · have p := pL.app (Pln.cons (c := 40) (by omega) Pln.nil)
      refine names_j1 L [] [40] 3 A B W h0 (by omega) (by omega) (by omega) (by rw [hA]; rfl) (by rw [hB]; rfl) (by simpa using p) (by simp; omega) ?_
      rw [hW, show ([] : List Int) ++ L ++ [40] = L ++ [40] by simp, toks_plain p, tks_f hL hne]
      show _ = [tokS ⟨20, L, 0, false, 0⟩]
      rw [tS]
      rfl
    · have p := Pln.cons (c := 45) (by omega) pL
      refine names_j1 L [45] [] 4 A B W h0 (by omega) (by omega) (by omega) (by rw [hA]; rfl) (by rw [hB]; rfl) (by simpa using p) (by simp; omega) ?_
      rw [hW, show [45] ++ L ++ [] = 45 :: L by simp, toks_plain p, tks_min hL hne, e45]
      show _ = [(⟨1, strOfNums (utf8 (45 :: L)), 0, false, 0⟩ : S31)]
      rw [hu1]
      rfl
    · have p := Pln.cons (c := 45) (by omega) (Pln.cons (c := 45) (by omega) pL)
      refine names_j1 L [45, 45] [] 5 A B W h0 (by omega) (by omega) (by omega) (by rw [hA]; rfl) (by rw [hB]; rfl) (by simpa using p) (by simp; omega) ?_
      rw [hW, show [45, 45] ++ L ++ [] = 45 :: 45 :: L by simp, toks_plain p, tks_minmin hL, e4545]
      show _ = [(⟨1, strOfNums (utf8 (45 :: 45 :: L)), 0, false, 0⟩ : S31)]
      rw [hu2]
      rfl
    · have p := Pln.cons (c := 46) (by omega) pL
      refine names_j1 L [46] [] 7 A B W h0 (by omega) (by omega) (by omega) (by rw [hA]; rfl) (by rw [hB]; rfl) (by simpa using p) (by simp; omega) ?_
      rw [hW, show [46] ++ L ++ [] = 46 :: L by simp, toks_plain p, tks_dot hL hne]
      show _ = [tokS ⟨10, [], 0, false, 46⟩, tokS ⟨1, L, 0, false, 0⟩]
      rw [tS]
      rfl
    · have p := Pln.cons (c := 51) (by omega) pL
      refine names_j1 L [51] [] 8 A B W h0 (by omega) (by omega) (by omega) (by rw [hA]; rfl) (by rw [hB]; rfl) (by simpa using p) (by simp; omega) ?_
      rw [hW, show [51] ++ L ++ [] = 51 :: L by simp, toks_plain p, tks_three hL hne]
      show _ = [tokS ⟨8, L, 3000, false, 0⟩]
      rw [tS]
      rfl
  have sL : (strOfNums L).size = L.length := strOfNums_size L
  by_cases hin : 0 ≤ w ∧ w < 9 ∧ w ≠ 6
  · obtain ⟨K, f⟩ := key _ _ _ rfl rfl rfl hin.1 hin.2.1 hin.2.2
    refine ⟨K + 1, fun k hk => ?_⟩
    obtain ⟨k, rfl⟩ : ∃ m, k = m + 1 := ⟨k - 1, by omega⟩
    have g := f k (by omega)
    have h6 : (w == 6) = false := beq_eq_false_iff_ne.2 hin.2.2
    show tapestrierlaw4_TokNames.j0 (k + 1) (strOfNums L) w true false = _
    rw [tapestrierlaw4_TokNames.j0, if_neg Bool.false_ne_true, Option.bind_some, Option.bind_some, sL, if_pos (by omega), if_pos (by omega), Option.bind_some, if_neg (by omega), if_neg (by simp only [List.length_cons, List.length_nil]; omega), h6]
    exact g
  · refine ⟨2, fun k hk => ?_⟩
    obtain ⟨k, rfl⟩ : ∃ m, k = m + 1 := ⟨k - 1, by omega⟩
    obtain ⟨k, rfl⟩ : ∃ m, k = m + 1 := ⟨k - 1, by omega⟩
    have hj : ∀ A B W, tapestrierlaw4_TokNames.j1 (k + 1) (strOfNums L) w A B W true = some true := fun A B W => by rw [tapestrierlaw4_TokNames.j1, if_pos rfl]
    show tapestrierlaw4_TokNames.j0 (k + 1 + 1) (strOfNums L) w true false = _
    rw [tapestrierlaw4_TokNames.j0, if_neg Bool.false_ne_true, Option.bind_some, Option.bind_some, sL, if_pos (by omega), if_pos (by omega), Option.bind_some]
    by_cases c1 : w < 0
    · rw [if_pos c1, hj]
    · rw [if_neg c1]
      by_cases c2 : w ≥ 9
      · rw [if_pos (by simp only [List.length_cons, List.length_nil]; omega), hj]
      · rw [if_neg (by simp only [List.length_cons, List.length_nil]; omega), beq_iff_eq.2 (show w = 6 by omega), hj]
theorem TokNames : tapestrierlaw4_TokNames.Pure := by
  intro a0 w hs _
  refine Ev.rounds (g := fun k => tapestrierlaw4_TokNames.f k a0 w) ?_
  rw [← str_bytes a0]
  have hs' : (Go.Proofs.YtplkkmmojanclaaDoorW.PrintWords.bytesOf a0).length ≤ 140737488351232 := by rw [Go.Proofs.YtplkkmmojanclaaDoorW.PrintWords.bytesOf_length]; exact hs
  generalize hL : Go.Proofs.YtplkkmmojanclaaDoorW.PrintWords.bytesOf a0 = L at hs'
  have hb : Byt L := by rw [← hL]; exact byt_bytes a0
  obtain ⟨b, ⟨K, f⟩, hb2⟩ := name_loop L hb hs' L.length 0 (by omega) (fun j _ h => by omega)
  cases b
  · refine ⟨K + 30, fun k hk => ?_⟩
    have g : tapestrierlaw4_name.f k (strOfNums L) = some false := f k (by omega)
    show tapestrierlaw4_TokNames.f k (strOfNums L) w = _
    rw [tapestrierlaw4_TokNames.f, alive_at k (by omega), Option.bind_some, g, Option.bind_some, if_pos rfl]
    obtain ⟨k, rfl⟩ : ∃ m, k = m + 1 := ⟨k - 1, by omega⟩
    rw [tapestrierlaw4_TokNames.j0, Bool.not_false, if_pos rfl]
  · obtain ⟨h1, h2, h3⟩ := hb2 rfl
    obtain ⟨K2, f2⟩ := names_ok L h1 h2 h3 w
    refine ⟨max K K2 + 30, fun k hk => ?_⟩
    have g : tapestrierlaw4_name.f k (strOfNums L) = some true := f k (by omega)
    have g2 := f2 k (by omega)
    show tapestrierlaw4_TokNames.f k (strOfNums L) w = _
    rw [tapestrierlaw4_TokNames.f, alive_at k (by omega), Option.bind_some, g, Option.bind_some, if_pos rfl, Bool.not_true]
    exact g2
end Go.Proofs.YtplkkmmojanclaaDoor.Pure
