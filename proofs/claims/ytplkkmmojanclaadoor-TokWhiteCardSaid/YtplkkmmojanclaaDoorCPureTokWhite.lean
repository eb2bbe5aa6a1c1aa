/- Part of the proof; printed or typed in this session; unused declarations and remarks struck by a program (wip/prune.py). -/
import Derived.Laws.BitsLemmas
import Derived.Test.YtplkkmmojanclaaDoorCQ25
import Derived.Test.YtplkkmmojanclaaDoorCKit
set_option linter.all false
namespace Go.Proofs.YtplkkmmojanclaaDoor.Pure
open Go.RowKit Go.Proofs.YtplkkmmojanclaaDoor.My Go.Proofs.YtplkkmmojanclaaDoor.Q Go.Proofs.YtplkkmmojanclaaDoor.Tk Go.Proofs.YtplkkmmojanclaaDoorW.PrintWords Go.Proofs.YtplkkmmojanclaaDoorW.PrintLast
theorem and1023 (n : Int) : Go.bits .and .i64 n 1023 = n % 1024 := by
  have h127 : (BitVec.ofInt 64 1023).toNat = 2 ^ 10 - 1 := by decide
  have key : (BitVec.ofInt 64 n &&& BitVec.ofInt 64 1023).toNat = (n % ((2 ^ 64 : Nat) : Int)).toNat % 2 ^ 10 := by
    rw [BitVec.toNat_and, BitVec.toNat_ofInt, h127, Nat.and_two_pow_sub_one_eq_mod]
  show IntKind.i64.wrap ((BitVec.ofInt 64 n &&& BitVec.ofInt 64 1023).toNat : Nat) = n % 1024
  rw [key, IntKind.wrap_i64]
  omega
def whiteB (c : Int) : Prop := c = 32 ∨ c = 9 ∨ c = 10 ∨ c = 13 ∨ c = 12
theorem bt_white {i : Int} (h0 : 0 ≤ i) (h1 : i < 5) : whiteB (bt (⟨#[32, 9, 10, 13, 12]⟩ : ByteArray) i) := by
  have hc : i = 0 ∨ i = 1 ∨ i = 2 ∨ i = 3 ∨ i = 4 := by omega
  unfold whiteB
  rcases hc with rfl | rfl | rfl | rfl | rfl <;> decide
theorem prep_white : ∀ (W : List Int) (last : Int), (∀ c ∈ W, whiteB c) → ∃ V : List Int, prepF last (W ++ [98]) = V ++ [98] ∧ (∀ v ∈ V, isW v = true ∧ (14 ≤ v ∨ v = 9 ∨ v = 10) ∧ v < 128) ∧ V.length ≤ W.length ∧ (W ≠ [] → last ≠ 13 → V ≠ [])
  | [], last, _ => by
    refine ⟨[], ?_, (fun v hv => by cases hv), Nat.le_refl _, fun h => absurd rfl h⟩
    rw [List.nil_append, prepF, prepF]
    unfold prepStep
    rw [if_neg (by omega), if_neg (by omega), if_neg (by omega)]
    rfl
  | c :: W, last, h => by
    obtain ⟨V, e, hV, hl, _⟩ := prep_white W c (fun d hd => h d (by simp [hd]))
    have hc := h c (by simp)
    rw [List.cons_append, prepF, e]
    by_cases hd : c = 10 ∧ last = 13
    · refine ⟨V, by unfold prepStep; rw [if_pos hd, List.nil_append], hV, by simp; omega, fun _ h13 => absurd hd.2 h13⟩
    · have hs : ∃ d, prepStep last c = [d] ∧ isW d = true ∧ (14 ≤ d ∨ d = 9 ∨ d = 10) ∧ d < 128 := by
        unfold prepStep
        rw [if_neg hd]
        unfold whiteB at hc
        rcases hc with rfl | rfl | rfl | rfl | rfl
        · exact ⟨32, by simp, by decide, by omega, by omega⟩
        · exact ⟨9, by simp, by decide, by omega, by omega⟩
        · exact ⟨10, by simp, by decide, by omega, by omega⟩
        · exact ⟨10, by simp, by decide, by omega, by omega⟩
        · exact ⟨10, by simp, by decide, by omega, by omega⟩
      obtain ⟨d, e2, hd1⟩ := hs
      refine ⟨d :: V, by rw [e2]; rfl, fun v hv => ?_, by simp; omega, fun _ _ => List.cons_ne_nil _ _⟩
      rcases List.mem_cons.1 hv with rfl | hv
      · exact hd1
      · exact hV v hv
theorem dropW_all : ∀ {V : List Int} (t : List Int), (∀ v ∈ V, isW v = true) → isW (hd t 0) = false → (V ++ t).dropWhile isW = t
  | [], t, _, h => by
    rw [List.nil_append]
    cases t with
    | nil => rfl
    | cons d t => rw [hd_cons] at h; rw [List.dropWhile_cons_of_neg (by rw [h]; exact Bool.false_ne_true)]
  | v :: V, t, hV, h => by
    rw [List.cons_append, List.dropWhile_cons_of_pos (hV v (by simp))]
    exact dropW_all t (fun d hd => hV d (by simp [hd])) h
theorem toks_white (W : List Int) (hW : ∀ c ∈ W, whiteB c) (hne : W ≠ []) : toksOf ([97] ++ W ++ [98]) = [⟨1, (⟨#[97]⟩ : ByteArray), 0, false, 0⟩, ⟨9, (⟨#[]⟩ : ByteArray), 0, false, 0⟩, ⟨1, (⟨#[98]⟩ : ByteArray), 0, false, 0⟩] := by
  obtain ⟨V, e, hV, _, hVne⟩ := prep_white W 97 hW
  have hVne := hVne hne (by omega)
  have hall : ∀ c ∈ [97] ++ W ++ [98], 0 ≤ c ∧ c < 128 := fun c hc => by
    simp only [List.mem_append, List.mem_singleton] at hc
    rcases hc with (rfl | hc) | rfl
    · omega
    · have := hW c hc; unfold whiteB at this; omega
    · omega
  have ep : prep ([97] ++ W ++ [98]) = 97 :: (V ++ [98]) := by
    unfold prep
    rw [pts_plain _ hall, show [97] ++ W ++ [98] = 97 :: (W ++ [98]) by simp, prepF, e]
    rfl
  have hp : Pln (97 :: (V ++ [98])) := Pln.cons (by omega) (Pln.app (fun c hc => (hV c hc).2) (Pln.cons (by omega) Pln.nil))
  have hp2 : Pln (V ++ [98]) := Pln.app (fun c hc => (hV c hc).2) (Pln.cons (by omega) Pln.nil)
  unfold toksOf
  rw [ep, map_cp_plain (fun c hc => by have := hp c hc; omega)]
  obtain ⟨v, r, rfl⟩ : ∃ v r, V = v :: r := by
    cases V with
    | nil => exact absurd rfl hVne
    | cons v r => exact ⟨v, r, rfl⟩
  have hv := (hV v (by simp)).1
  have hvc := of_decide_eq_true hv
  have h1 : tok (97 :: (v :: r ++ [98])) = ({ k := 1, t := [97] }, v :: r ++ [98]) := by
    rw [tok_word rfl (by omega) (by omega) (by omega) (by omega) (num_off (by omega) (by omega) rfl (fun e => by omega)) (nam_S rfl)]
    have := word_app (L := [97]) (r := v :: r ++ [98]) (fun c hc => by simp only [List.mem_singleton] at hc; subst hc; exact ⟨rfl, by omega⟩) (by rw [List.cons_append]; exact esc_cons_ne (by omega)) (by
      rw [List.cons_append, hd_cons]
      rcases hvc with rfl | rfl | rfl <;> rfl)
    have e0 : hd (v :: r ++ [98]) 0 = v := by rw [List.cons_append, hd_cons]
    rw [e0, if_neg (by omega)] at this
    exact this
  have h2 : tok (v :: r ++ [98]) = ({ k := 9 }, [98]) := by
    have := dropW_all (V := v :: r) [98] (fun c hc => (hV c hc).1) rfl
    rw [List.cons_append] at this ⊢
    rw [tok_white hv, this]
  rw [tks_tok hp.vld (List.cons_ne_nil _ _) (by rw [hd_cons]; omega), h1, tks_tok hp2.vld (by simp) (by rw [List.cons_append, hd_cons]; omega), h2, show tks [98] = [{ k := 1, t := [98] }] by decide +kernel]
  rfl
theorem white_end (l W : List Int) (hW : ∀ c ∈ W, whiteB c) (hne : W ≠ []) (hl : W.length ≤ 100) : Ev (fun k => tapestrierlaw4_TokWhite.l0 k l W (l.length : Int)) true := by
  have hb : Byt ([97] ++ W ++ [98]) := fun c hc => by
    simp only [List.mem_append, List.mem_singleton] at hc
    rcases hc with (rfl | hc) | rfl
    · omega
    · have := hW c hc; unfold whiteB at this; omega
    · omega
  obtain ⟨K, f⟩ := of_ev _ hb (by simp; omega)
  rw [toks_white W hW hne] at f
  have hpos := List.length_pos_iff.2 hne
  refine ⟨K + 10, fun k hk => ?_⟩
  obtain ⟨k, rfl⟩ : ∃ m, k = m + 1 := ⟨k - 1, by omega⟩
  have g : tapestrierlaw4_Of.f k ([97] ++ W ++ [98]) = _ := f k (by omega)
  have s1 : (strOfNums [97]).size = 1 := strOfNums_size _
  have e1 : Go.Proofs.YtplkkmmojanclaaDoorW.PrintWords.bytesOf (strOfNums [97]) = [97] := bytesOf_str [97] (fun c hc => by simp at hc; omega)
  have ea : constApp5.f (strOfNums [97]) W = some ([97] ++ W) := by
    unfold constApp5.f
    rw [s1, if_pos (by omega), e1]
  show tapestrierlaw4_TokWhite.l0 (k + 1) l W (l.length : Int) = _
  rw [tapestrierlaw4_TokWhite.l0, if_neg (by omega), ea, Option.bind_some, List.length_append, List.length_cons, List.length_nil, if_pos (by omega), g, Option.bind_some]
  decide +kernel
theorem white_loop (l : List Int) (hl : l.length ≤ 100) (hne : l ≠ []) : ∀ (d i : Nat) (W : List Int), i + d = l.length → W.length = i → (∀ c ∈ W, whiteB c) → Ev (fun k => tapestrierlaw4_TokWhite.l0 k l W (i : Int)) true := by
  have hpos := List.length_pos_iff.2 hne
  intro d
  induction d with
  | zero =>
    intro i W hi hw hW
    obtain rfl : i = l.length := by omega
    exact white_end l W hW (fun e => by rw [e] at hw; simp at hw; omega) (by omega)
  | succ d ih =>
    intro i W hi hw hW
    have hlt : i < l.length := by omega
    have em : Int.tmod (Go.bits .and .i64 (rd l (i : Int)) 1023) 5 = (rd l (i : Int)) % 1024 % 5 := by
      rw [and1023, Int.tmod_eq_emod_of_nonneg (by omega)]
    have h0 : 0 ≤ (rd l (i : Int)) % 1024 % 5 := by omega
    have h5 : (rd l (i : Int)) % 1024 % 5 < 5 := by omega
    obtain ⟨K, f⟩ := ih (i + 1) (W ++ [bt (⟨#[32, 9, 10, 13, 12]⟩ : ByteArray) ((rd l (i : Int)) % 1024 % 5)]) (by omega) (by simp; omega) (fun c hc => by
      rcases List.mem_append.1 hc with hc | hc
      · exact hW c hc
      · rw [List.mem_singleton.1 hc]; exact bt_white h0 h5)
    refine ⟨K + 1, fun k hk => ?_⟩
    obtain ⟨k, rfl⟩ : ∃ m, k = m + 1 := ⟨k - 1, by omega⟩
    show tapestrierlaw4_TokWhite.l0 (k + 1) l W (i : Int) = _
    rw [tapestrierlaw4_TokWhite.l0, if_pos (by omega), if_pos (by omega), em, if_pos h0, if_pos h5, if_pos (by omega), wp i (by omega)]
    exact f k (by omega)
theorem TokWhite : tapestrierlaw4_TokWhite.Pure := by
  intro l _ _ _
  refine Ev.rounds (g := fun k => tapestrierlaw4_TokWhite.f k l) ?_
  have ht : ∀ k, tapestrierlaw4_TokWhite.j0 (k + 1) l true true = some true := fun k => by rw [tapestrierlaw4_TokWhite.j0, if_pos rfl]
  by_cases hl : 1 ≤ l.length ∧ l.length ≤ 100
  · obtain ⟨K, f⟩ := white_loop l hl.2 (List.length_pos_iff.1 (by omega)) l.length 0 [] (by omega) rfl (fun c hc => by cases hc)
    refine ⟨K + 30, fun k hk => ?_⟩
    obtain ⟨k, rfl⟩ : ∃ m, k = m + 1 := ⟨k - 1, by omega⟩
    show tapestrierlaw4_TokWhite.f (k + 1) l = _
    rw [tapestrierlaw4_TokWhite.f, alive_at (k + 1) (by omega), Option.bind_some, if_pos rfl, if_neg (by omega), tapestrierlaw4_TokWhite.j0, if_neg (by simp; omega)]
    exact f k (by omega)
  · refine ⟨30, fun k hk => ?_⟩
    obtain ⟨k, rfl⟩ : ∃ m, k = m + 1 := ⟨k - 1, by omega⟩
    show tapestrierlaw4_TokWhite.f (k + 1) l = _
    rw [tapestrierlaw4_TokWhite.f, alive_at (k + 1) (by omega), Option.bind_some, if_pos rfl]
    by_cases c1 : (l.length : Int) < 1
    · rw [if_pos c1, ht]
    · rw [if_neg c1, decide_eq_true (by omega), ht]
end Go.Proofs.YtplkkmmojanclaaDoor.Pure
