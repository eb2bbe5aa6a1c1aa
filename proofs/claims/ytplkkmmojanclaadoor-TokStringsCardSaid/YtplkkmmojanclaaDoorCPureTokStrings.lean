/- Part of the proof; printed or typed in this session; unused declarations and remarks struck by a program (wip/prune.py). -/
import Derived.Test.YtplkkmmojanclaaDoorCQ19
import Derived.Test.YtplkkmmojanclaaDoorCKit
namespace Go.Proofs.YtplkkmmojanclaaDoor.Pure
open Go.RowKit Go.Proofs.YtplkkmmojanclaaDoor.My Go.Proofs.YtplkkmmojanclaaDoor.Q Go.Proofs.YtplkkmmojanclaaDoor.Tk Go.Proofs.YtplkkmmojanclaaDoorW.PrintWords Go.Proofs.YtplkkmmojanclaaDoorW.PrintLast
def okC (c : Int) : Prop := 32 ≤ c ∧ c ≤ 126 ∧ c ≠ 34 ∧ c ≠ 39 ∧ c ≠ 92
theorem str_j2 (L : List Int) (hL : ∀ c ∈ L, okC c) (hl : L.length ≤ 300) (q : Int) (hq : q = 34 ∨ q = 39) (closed : Bool) : Ev (fun k => tapestrierlaw4_TokStrings.j2 k (strOfNums L) closed (strOfNums [q])) true := by
  have pL : Pln L := fun c hc => by have := hL c hc; unfold okC at this; omega
  have pq : Pln [q] := Pln.cons (by omega) Pln.nil
  have pa : Pln [97] := Pln.cons (by omega) Pln.nil
  have pn : Pln [10, 97] := Pln.cons (by omega) pa
  have hok : ∀ c ∈ L, c ≠ 10 ∧ c ≠ q ∧ c ≠ 92 := fun c hc => by have := hL c hc; unfold okC at this; omega
  have hu : utf8 L = L := utf8_ascii (fun c hc => (pL c hc).2)
  have s1 : (strOfNums [q]).size = 1 := strOfNums_size [q]
  have sL : (strOfNums L).size = L.length := strOfNums_size L
  have t4 : tokS { k := 4, t := L } = ⟨4, strOfNums L, 0, false, 0⟩ := by unfold tokS; rw [hu]
  cases closed
  · have p1 : Pln ([q] ++ L) := pq.app pL
    have p2 : Pln ([q] ++ L ++ [10, 97]) := p1.app pn
    have e1 : toksOf ([q] ++ L) = [⟨4, strOfNums L, 0, false, 0⟩] := by
      rw [toks_plain p1]
      have : tks ([q] ++ L) = [{ k := 4, t := L }] := by
        show tks (q :: L) = _
        rw [tks_str (s := L) hq p1.vld, qd_end L hok pL.vld]
        rfl
      rw [this]
      show [tokS { k := 4, t := L }] = _
      rw [t4]
    have e2 : toksOf ([q] ++ L ++ [10, 97]) = [⟨5, (⟨#[]⟩ : ByteArray), 0, false, 0⟩, ⟨9, (⟨#[]⟩ : ByteArray), 0, false, 0⟩, ⟨1, (⟨#[97]⟩ : ByteArray), 0, false, 0⟩] := by
      rw [toks_plain p2]
      have : tks ([q] ++ L ++ [10, 97]) = [{ k := 5 }, { k := 9 }, { k := 1, t := [97] }] := by
        have e0 : [q] ++ L ++ [10, 97] = q :: (L ++ 10 :: [97]) := by simp
        rw [e0] at p2 ⊢
        rw [tks_str hq p2.vld, qd_bad L [97] hok (fun c hc => p2.vld c (by simp only [List.mem_cons]; exact .inr hc))]
        show strTok none :: tks [10, 97] = _
        rw [tks_nla]
        rfl
      rw [this]
      rfl
    obtain ⟨K1, f1⟩ := of_ev ([q] ++ L) p1.byt (by simp; omega)
    obtain ⟨K2, f2⟩ := of_ev ([q] ++ L ++ [10, 97]) p2.byt (by simp; omega)
    rw [e1] at f1
    rw [e2] at f2
    refine ⟨max K1 K2 + 10, fun k hk => ?_⟩
    obtain ⟨k, rfl⟩ : ∃ m, k = m + 1 := ⟨k - 1, by omega⟩
    have g1 : tapestrierlaw4_Of.f k ([q] ++ L) = _ := f1 k (by omega)
    have g2 : tapestrierlaw4_Of.f k ([q] ++ L ++ [10, 97]) = _ := f2 k (by omega)
    show tapestrierlaw4_TokStrings.j2 (k + 1) (strOfNums L) false (strOfNums [q]) = _
    rw [tapestrierlaw4_TokStrings.j2, Option.bind_some, if_neg Bool.false_ne_true, s1, sL, if_pos (by omega), str_append, conv_ev _ p1.byt (by simp; omega), Option.bind_some, g1, Option.bind_some, same_ev _ (by simp) k (by simp; omega), Option.bind_some, if_pos rfl, strOfNums_size, if_pos (by simp; omega)]
    rw [show (⟨#[10, 97]⟩ : ByteArray) = strOfNums [10, 97] from rfl, str_append, conv_ev _ p2.byt (by simp; omega), Option.bind_some, g2, Option.bind_some]
    rw [same_ev _ (by simp) k (by simp; omega), Option.bind_some]
  · have p1 : Pln ([q] ++ L ++ [q] ++ [97]) := ((pq.app pL).app pq).app pa
    have e1 : toksOf ([q] ++ L ++ [q] ++ [97]) = [⟨4, strOfNums L, 0, false, 0⟩, ⟨1, (⟨#[97]⟩ : ByteArray), 0, false, 0⟩] := by
      rw [toks_plain p1]
      have : tks ([q] ++ L ++ [q] ++ [97]) = [{ k := 4, t := L }, { k := 1, t := [97] }] := by
        have e0 : [q] ++ L ++ [q] ++ [97] = q :: (L ++ q :: [97]) := by simp
        rw [e0] at p1 ⊢
        rw [tks_str hq p1.vld, qd_plain (by omega) L [97] hok (fun c hc => p1.vld c (by simp only [List.mem_cons]; exact .inr hc))]
        show strTok (some L) :: tks [97] = _
        rw [tks_a]
        rfl
      rw [this]
      show [tokS { k := 4, t := L }, tokS { k := 1, t := [97] }] = _
      rw [t4]
      rfl
    obtain ⟨K1, f1⟩ := of_ev ([q] ++ L ++ [q] ++ [97]) p1.byt (by simp; omega)
    rw [e1] at f1
    refine ⟨K1 + 10, fun k hk => ?_⟩
    obtain ⟨k, rfl⟩ : ∃ m, k = m + 1 := ⟨k - 1, by omega⟩
    have g1 : tapestrierlaw4_Of.f k ([q] ++ L ++ [q] ++ [97]) = _ := f1 k (by omega)
    show tapestrierlaw4_TokStrings.j2 (k + 1) (strOfNums L) true (strOfNums [q]) = _
    rw [tapestrierlaw4_TokStrings.j2, Option.bind_some, if_pos rfl, s1, sL, if_pos (by omega), str_append, strOfNums_size, if_pos (by simp; omega), str_append, strOfNums_size, if_pos (by simp; omega)]
    rw [show (⟨#[97]⟩ : ByteArray) = strOfNums [97] from rfl, str_append, conv_ev _ p1.byt (by simp; omega), Option.bind_some, g1, Option.bind_some, if_pos (by simp)]
    have hs := same_ev ([⟨4, strOfNums L, 0, false, 0⟩, ⟨1, (⟨#[97]⟩ : ByteArray), 0, false, 0⟩] : List S31) (by simp) k (by simp; omega)
    show (tapestrierref1_SameTokens.f k _ _).bind _ = _
    exact (congrArg (fun o => Option.bind o some) hs).trans rfl
theorem str_loop (L : List Int) (hb : Byt L) (hl : L.length ≤ 300) (one closed : Bool) : ∀ (d i : Nat), i + d = L.length → (∀ j, (h : j < L.length) → j < i → okC L[j]) → Ev (fun k => tapestrierlaw4_TokStrings.l0 k (strOfNums L) one closed (i : Int)) true := by
  have sL : (strOfNums L).size = L.length := strOfNums_size L
  intro d
  induction d with
  | zero =>
    intro i hi hok
    have hL : ∀ c ∈ L, okC c := fun c hc => by
      obtain ⟨j, hj, rfl⟩ := List.getElem_of_mem hc
      exact hok j hj (by omega)
    obtain ⟨K1, f1⟩ := str_j2 L hL hl 39 (.inr rfl) closed
    obtain ⟨K2, f2⟩ := str_j2 L hL hl 34 (.inl rfl) closed
    refine ⟨max K1 K2 + 1, fun k hk => ?_⟩
    obtain ⟨k, rfl⟩ : ∃ m, k = m + 1 := ⟨k - 1, by omega⟩
    show tapestrierlaw4_TokStrings.l0 (k + 1) (strOfNums L) one closed (i : Int) = _
    rw [tapestrierlaw4_TokStrings.l0, if_neg (by rw [sL]; omega)]
    cases one
    · rw [if_neg Bool.false_ne_true]
      exact f2 k (by omega)
    · rw [if_pos rfl]
      exact f1 k (by omega)
  | succ d ih =>
    intro i hi hok
    have hlt : i < L.length := by omega
    have hbi := hb L[i] (List.getElem_mem hlt)
    by_cases hc : okC L[i]
    · obtain ⟨K, f⟩ := ih (i + 1) (by omega) (fun j hj hji => by
        by_cases e : j = i
        · subst e; exact hc
        · exact hok j hj (by omega))
      refine ⟨K + 1, fun k hk => ?_⟩
      obtain ⟨k, rfl⟩ : ∃ m, k = m + 1 := ⟨k - 1, by omega⟩
      unfold okC at hc
      show tapestrierlaw4_TokStrings.l0 (k + 1) (strOfNums L) one closed (i : Int) = _
      rw [tapestrierlaw4_TokStrings.l0, if_pos (by rw [sL]; omega), if_pos (by omega), bt_str L hb hlt, if_neg (by omega), if_neg (by omega), if_neg hc.2.2.1, if_neg hc.2.2.2.1, if_neg hc.2.2.2.2, wp i (by omega)]
      exact f k (by omega)
    · refine ⟨1, fun k hk => ?_⟩
      obtain ⟨k, rfl⟩ : ∃ m, k = m + 1 := ⟨k - 1, by omega⟩
      show tapestrierlaw4_TokStrings.l0 (k + 1) (strOfNums L) one closed (i : Int) = _
      rw [tapestrierlaw4_TokStrings.l0, if_pos (by rw [sL]; omega), if_pos (by omega), bt_str L hb hlt]
      unfold okC at hc
      by_cases c1 : L[i] < 32
      · rw [if_pos c1]
      · rw [if_neg c1]
        by_cases c2 : L[i] > 126
        · rw [if_pos c2]
        · rw [if_neg c2]
          by_cases c3 : L[i] = 34
          · rw [if_pos c3]
          · rw [if_neg c3]
            by_cases c4 : L[i] = 39
            · rw [if_pos c4]
            · rw [if_neg c4, if_pos (by omega)]
theorem TokStrings : tapestrierlaw4_TokStrings.Pure := by
  intro a0 one closed _
  refine Ev.rounds (g := fun k => tapestrierlaw4_TokStrings.f k a0 one closed) ?_
  rw [← str_bytes a0]
  generalize hL : Go.Proofs.YtplkkmmojanclaaDoorW.PrintWords.bytesOf a0 = L
  have hb : Byt L := by rw [← hL]; exact byt_bytes a0
  by_cases hl : L.length ≤ 300
  · obtain ⟨K, f⟩ := str_loop L hb hl one closed L.length 0 (by omega) (fun j _ h => by omega)
    refine ⟨K + 30, fun k hk => ?_⟩
    obtain ⟨k, rfl⟩ : ∃ m, k = m + 1 := ⟨k - 1, by omega⟩
    show tapestrierlaw4_TokStrings.f (k + 1) (strOfNums L) one closed = _
    rw [tapestrierlaw4_TokStrings.f, alive_at (k + 1) (by omega), Option.bind_some, if_pos rfl, tapestrierlaw4_TokStrings.j0, strOfNums_size, if_neg (by simp; omega)]
    exact f k (by omega)
  · refine ⟨30, fun k hk => ?_⟩
    obtain ⟨k, rfl⟩ : ∃ m, k = m + 1 := ⟨k - 1, by omega⟩
    show tapestrierlaw4_TokStrings.f (k + 1) (strOfNums L) one closed = _
    rw [tapestrierlaw4_TokStrings.f, alive_at (k + 1) (by omega), Option.bind_some, if_pos rfl, tapestrierlaw4_TokStrings.j0, strOfNums_size, if_pos (by simp; omega)]
end Go.Proofs.YtplkkmmojanclaaDoor.Pure
