/- Part of the proof; printed or typed in this session; unused declarations and remarks struck by a program (wip/prune.py). -/
import Derived.Test.YtplkkmmojanclaaDoorCQ22
import Derived.Test.YtplkkmmojanclaaDoorCRefBytes
set_option linter.all false
namespace Go.Proofs.YtplkkmmojanclaaDoor.Pure
open Go.RowKit Go.Proofs.YtplkkmmojanclaaDoor.My Go.Proofs.YtplkkmmojanclaaDoor.Q Go.Proofs.YtplkkmmojanclaaDoor.Tk Go.Proofs.YtplkkmmojanclaaDoorW.PrintWords Go.Proofs.YtplkkmmojanclaaDoorW.PrintLast
def step (n c : Int) : Int := n * 16 + hex c
def isH (c : Int) : Prop := 48 ≤ c ∧ c ≤ 57 ∨ 97 ≤ c ∧ c ≤ 102
def digH (d : Int) : Int := if d < 10 then 48 + d else 87 + d
theorem digH_hex {d : Int} (h0 : 0 ≤ d) (h1 : d < 16) : isH (digH d) ∧ hex (digH d) = d := by
  unfold digH
  by_cases h : d < 10
  · rw [if_pos h]
    refine ⟨by unfold isH; omega, ?_⟩
    unfold hex isD
    rw [decide_eq_true (by omega), if_pos rfl]
    omega
  · rw [if_neg h]
    refine ⟨by unfold isH; omega, ?_⟩
    unfold hex isD
    rw [decide_eq_false (by omega), if_neg Bool.false_ne_true, if_pos (by omega)]
    omega
theorem isH_hex {c : Int} (h : isH c) : hex c ≠ -1 := by
  unfold isH at h
  unfold hex isD
  by_cases hd : 48 ≤ c ∧ c ≤ 57
  · rw [decide_eq_true hd, if_pos rfl]; omega
  · rw [decide_eq_false hd, if_neg Bool.false_ne_true, if_pos (by omega)]; omega
theorem hexes_app : ∀ (m : Nat) (H t : List Int) (n : Int), (∀ c ∈ H, isH c) → H.length ≤ m → (H.length = m ∨ hex (hd t 0) = -1) → hexes m n (H ++ t) = (H.foldl step n, t)
  | 0, [], t, n, _, _, _ => rfl
  | 0, c :: H, t, n, _, h, _ => by simp at h
  | m + 1, [], t, n, _, _, h => by
    have h' : hex (hd t 0) = -1 := h.resolve_left (by simp)
    rw [List.nil_append, hexes, if_pos h']
    rfl
  | m + 1, c :: H, t, n, hH, hl, h => by
    simp only [List.length_cons] at hl h
    rw [List.cons_append, hexes, hd_cons, if_neg (isH_hex (hH c (by simp))), List.drop_succ_cons, List.drop_zero]
    exact hexes_app m H t _ (fun d hd => hH d (by simp [hd])) (by omega) (h.imp (fun e => by omega) (fun e => e))
def pt (n : Int) : Int := if n = 0 ∨ n > 1114111 ∨ 55296 ≤ n ∧ n ≤ 57343 then 65533 else n
theorem pt_vld {n : Int} (h : 0 ≤ n) : Vld (pt n) := by
  unfold pt Vld
  split <;> omega
theorem escd_app (H t : List Int) (n : Int) (hH : ∀ c ∈ H, isH c) (hne : H ≠ []) (hl : H.length ≤ 6) (h : H.length = 6 ∨ hex (hd t 0) = -1) (hn : H.foldl step 0 = n) :
    escd (H ++ t) = (pt n, if isW (hd t 0) then t.drop 1 else t) := by
  obtain ⟨c, r, rfl⟩ : ∃ c r, H = c :: r := by
    cases H with
    | nil => exact absurd rfl hne
    | cons c r => exact ⟨c, r, rfl⟩
  unfold escd
  rw [List.cons_append, hd_cons, if_neg (isH_hex (hH c (by simp))), ← List.cons_append, hexes_app 6 _ t 0 hH hl h, hn]
  rfl
theorem pln_H {H : List Int} (hH : ∀ c ∈ H, isH c) : Pln H := fun c hc => by have := hH c hc; unfold isH at this; omega
def tailOk (H sp : List Int) : Prop := sp = [32] ∨ sp = [] ∧ H.length = 6
theorem escd_tail (H sp g : List Int) (n : Int) (hH : ∀ c ∈ H, isH c) (hne : H ≠ []) (hl : H.length ≤ 6) (hn : H.foldl step 0 = n) (hsp : tailOk H sp) (hg : isW (hd g 0) = false) : escd (H ++ (sp ++ g)) = (pt n, g) := by
  rcases hsp with rfl | ⟨rfl, h6⟩
  · rw [escd_app H _ n hH hne hl (.inr (by rw [List.singleton_append, hd_cons]; decide)) hn, List.singleton_append, hd_cons, show isW 32 = true from rfl, if_pos rfl]
    rfl
  · rw [escd_app H _ n hH hne hl (.inl h6) hn, List.nil_append, hg, if_neg Bool.false_ne_true]
theorem tks_esc (H sp g : List Int) (n : Int) (hH : ∀ c ∈ H, isH c) (hne : H ≠ []) (hl : H.length ≤ 6) (hn : H.foldl step 0 = n) (hsp : tailOk H sp) (hg : g = [] ∨ g = [103]) : tks (92 :: (H ++ (sp ++ g))) = [{ k := 1, t := pt n :: g }] := by
  have hgw : isW (hd g 0) = false := by rcases hg with rfl | rfl <;> rfl
  have pg : Pln g := by
    rcases hg with rfl | rfl
    · exact Pln.nil
    · exact Pln.cons (by omega) Pln.nil
  have psp : Pln sp := by
    rcases hsp with rfl | ⟨rfl, _⟩
    · exact Pln.cons (by omega) Pln.nil
    · exact Pln.nil
  have p : Pln (92 :: (H ++ (sp ++ g))) := Pln.cons (by omega) ((pln_H hH).app (psp.app pg))
  obtain ⟨c, r, rfl⟩ : ∃ c r, H = c :: r := by
    cases H with
    | nil => exact absurd rfl hne
    | cons c r => exact ⟨c, r, rfl⟩
  have hc := hH c (by simp)
  unfold isH at hc
  have he : esc (92 :: (c :: r ++ (sp ++ g))) 0 = true := by
    unfold esc
    apply decide_eq_true
    rw [hd_cons, hd_succ, List.cons_append, hd_cons]
    omega
  have hng : name g = (g, []) := by
    rcases hg with rfl | rfl
    · rfl
    · decide +kernel
  have hname : name (92 :: (c :: r ++ (sp ++ g))) = (pt n :: g, []) := by
    rw [name_eqn, he, if_pos rfl, List.drop_succ_cons, List.drop_zero, escd_tail (c :: r) sp g n hH hne hl hn hsp hgw, hng]
  have hm : nam (92 :: (c :: r ++ (sp ++ g))) 0 = true := by
    unfold nam
    rw [he, hd_cons, if_neg (by omega), Bool.or_true]
  have ht : tok (92 :: (c :: r ++ (sp ++ g))) = ({ k := 1, t := pt n :: g }, []) := by
    rw [tok_word rfl (by omega) (by omega) (by omega) (by omega) (num_off (by omega) (by omega) rfl (fun e => by omega)) hm]
    unfold word
    rw [hname, hd_nil, if_neg (by omega)]
  rw [tks_tok p.vld (List.cons_ne_nil _ _) (by rw [hd_cons]; omega), ht, tks_nil]
theorem tks_escstr (H sp g : List Int) (n : Int) (hH : ∀ c ∈ H, isH c) (hne : H ≠ []) (hl : H.length ≤ 6) (hn : H.foldl step 0 = n) (hsp : tailOk H sp) (hg : g = [] ∨ g = [103]) : tks (34 :: 92 :: (H ++ (sp ++ (g ++ [34])))) = [{ k := 4, t := pt n :: g }] := by
  have hgw : isW (hd (g ++ [34]) 0) = false := by rcases hg with rfl | rfl <;> rfl
  have pg : Pln g := by
    rcases hg with rfl | rfl
    · exact Pln.nil
    · exact Pln.cons (by omega) Pln.nil
  have psp : Pln sp := by
    rcases hsp with rfl | ⟨rfl, _⟩
    · exact Pln.cons (by omega) Pln.nil
    · exact Pln.nil
  have p1 : Pln (92 :: (H ++ (sp ++ (g ++ [34])))) := Pln.cons (by omega) ((pln_H hH).app (psp.app (pg.app (Pln.cons (by omega) Pln.nil))))
  have p : Pln (34 :: 92 :: (H ++ (sp ++ (g ++ [34])))) := Pln.cons (by omega) p1
  have hn10 : hd (H ++ (sp ++ (g ++ [34]))) 0 ≠ 10 := by
    cases H with
    | nil => exact absurd rfl hne
    | cons c r =>
      have hc := hH c (by simp)
      unfold isH at hc
      rw [List.cons_append, hd_cons]
      omega
  have hne' : H ++ (sp ++ (g ++ [34])) ≠ [] := fun e => hne (List.append_eq_nil_iff.1 e).1
  have hq : qd 34 (g ++ [34]) = (some g, []) := by
    rcases hg with rfl | rfl
    · rfl
    · decide +kernel
  have hqd : qd 34 (92 :: (H ++ (sp ++ (g ++ [34])))) = (some (pt n :: g), []) := by
    rw [qd_cons 34 92 _ p1.vld, if_neg (by omega), if_neg (by omega), if_neg (by omega), if_neg hn10, if_pos hne', escd_tail H sp (g ++ [34]) n hH hne hl hn hsp hgw, hq]
    rfl
  rw [tks_str (.inl rfl) p.vld, hqd]
  rfl
theorem esc_j6 (H sp g : List Int) (n : Int) (hn0 : 0 ≤ n) (hH : ∀ c ∈ H, isH c) (hne : H ≠ []) (hl : H.length ≤ 6) (hn : H.foldl step 0 = n) (hsp : tailOk H sp) (hg : g = [] ∨ g = [103]) :
    Ev (fun k => tapestrierlaw4_TokEscapes.j6 k (strOfNums (utf8 [pt n])) (strOfNums (92 :: (H ++ (sp ++ g)))) (strOfNums g)) true := by
  have pg : Pln g := by
    rcases hg with rfl | rfl
    · exact Pln.nil
    · exact Pln.cons (by omega) Pln.nil
  have psp : Pln sp := by
    rcases hsp with rfl | ⟨rfl, _⟩
    · exact Pln.cons (by omega) Pln.nil
    · exact Pln.nil
  have lsp : sp.length ≤ 1 := by rcases hsp with rfl | ⟨rfl, _⟩ <;> simp
  have lg : g.length ≤ 1 := by rcases hg with rfl | rfl <;> simp
  have p1 : Pln (92 :: (H ++ (sp ++ g))) := Pln.cons (by omega) ((pln_H hH).app (psp.app pg))
  have p2 : Pln ([34] ++ (92 :: (H ++ (sp ++ g))) ++ [34]) := ((Pln.cons (by omega) Pln.nil).app p1).app (Pln.cons (by omega) Pln.nil)
  have e0 : [34] ++ (92 :: (H ++ (sp ++ g))) ++ [34] = 34 :: 92 :: (H ++ (sp ++ (g ++ [34]))) := by simp
  have hu : strOfNums (utf8 [pt n]) ++ strOfNums g = strOfNums (utf8 (pt n :: g)) := by
    rw [str_append]
    congr 1
    have hug : utf8 g = g := utf8_ascii (fun c hc => (pg c hc).2)
    unfold utf8 at hug ⊢
    rw [List.flatMap_cons, List.flatMap_cons, hug, List.flatMap_nil, List.append_nil]
  have t1 : toksOf (92 :: (H ++ (sp ++ g))) = [⟨1, strOfNums (utf8 (pt n :: g)), 0, false, 0⟩] := by
    rw [toks_plain p1, tks_esc H sp g n hH hne hl hn hsp hg]
    rfl
  have t2 : toksOf ([34] ++ (92 :: (H ++ (sp ++ g))) ++ [34]) = [⟨4, strOfNums (utf8 (pt n :: g)), 0, false, 0⟩] := by
    rw [toks_plain p2, e0, tks_escstr H sp g n hH hne hl hn hsp hg]
    rfl
  have l1 : (92 :: (H ++ (sp ++ g))).length ≤ 10 := by simp; omega
  have l2 : (utf8 [pt n]).length ≤ 4 := utf8_length [pt n]
  obtain ⟨K1, f1⟩ := of_ev _ p1.byt (by omega)
  obtain ⟨K2, f2⟩ := of_ev _ p2.byt (by simp only [List.length_append, List.length_cons, List.length_nil] at *; omega)
  rw [t1] at f1
  rw [t2] at f2
  refine ⟨max K1 K2 + 30, fun k hk => ?_⟩
  obtain ⟨k, rfl⟩ : ∃ m, k = m + 1 := ⟨k - 1, by omega⟩
  have g1 : tapestrierlaw4_Of.f k (92 :: (H ++ (sp ++ g))) = _ := f1 k (by omega)
  have g2 : tapestrierlaw4_Of.f k ([34] ++ (92 :: (H ++ (sp ++ g))) ++ [34]) = _ := f2 k (by omega)
  show tapestrierlaw4_TokEscapes.j6 (k + 1) (strOfNums (utf8 [pt n])) (strOfNums (92 :: (H ++ (sp ++ g)))) (strOfNums g) = _
  rw [tapestrierlaw4_TokEscapes.j6, conv_ev _ p1.byt (by omega), Option.bind_some, g1, Option.bind_some, strOfNums_size, strOfNums_size, if_pos (by omega), hu, same_ev _ (by simp) k (by simp; omega), Option.bind_some, if_pos rfl, strOfNums_size, if_pos (by omega), show (⟨#[34]⟩ : ByteArray) = strOfNums [34] from rfl, str_append, strOfNums_size, if_pos (by simp only [List.length_append, List.length_cons, List.length_nil] at *; omega), str_append, conv_ev _ p2.byt (by simp only [List.length_append, List.length_cons, List.length_nil] at *; omega), Option.bind_some, g2, Option.bind_some, same_ev _ (by simp) k (by simp; omega), Option.bind_some]
theorem esc_j3 (blank : Bool) (H : List Int) (n : Int) (hn0 : 0 ≤ n) (hH : ∀ c ∈ H, isH c) (hne : H ≠ []) (hl : H.length ≤ 6) (hn : H.foldl step 0 = n) :
    Ev (fun k => tapestrierlaw4_TokEscapes.j3 k blank (strOfNums H) (pt n)) true := by
  have sH : (strOfNums H).size = H.length := strOfNums_size H
  have e92 : (⟨#[92]⟩ : ByteArray) = strOfNums [92] := rfl
  have e32 : (⟨#[32]⟩ : ByteArray) = strOfNums [32] := rfl
  have e103 : (⟨#[103]⟩ : ByteArray) = strOfNums [103] := rfl
  have e00 : (⟨#[]⟩ : ByteArray) = strOfNums [] := rfl
  cases blank
  · by_cases h6 : H.length < 6
    · obtain ⟨K, f⟩ := esc_j6 H [32] [103] n hn0 hH hne hl hn (.inl rfl) (.inr rfl)
      refine ⟨K + 30, fun k hk => ?_⟩
      obtain ⟨k, rfl⟩ : ∃ m, k = m + 1 := ⟨k - 1, by omega⟩
      obtain ⟨k, rfl⟩ : ∃ m, k = m + 1 := ⟨k - 1, by omega⟩
      obtain ⟨k, rfl⟩ : ∃ m, k = m + 1 := ⟨k - 1, by omega⟩
      have g := f k (by omega)
      show tapestrierlaw4_TokEscapes.j3 (k + 1 + 1 + 1) false (strOfNums H) (pt n) = _
      rw [tapestrierlaw4_TokEscapes.j3, refBytes_one _ (pt_vld hn0) _ (by omega), Option.bind_some, sH, if_pos (by omega), if_neg Bool.false_ne_true, decide_eq_true (by omega), tapestrierlaw4_TokEscapes.j4, if_pos rfl, e92, str_append, strOfNums_size, if_pos (by simp; omega), e32, str_append, tapestrierlaw4_TokEscapes.j5, if_neg Bool.false_ne_true, strOfNums_size, if_pos (by simp; omega), e103, str_append]
      rw [show [92] ++ H ++ [32] ++ [103] = 92 :: (H ++ ([32] ++ [103])) by simp]
      exact g
    · obtain ⟨K, f⟩ := esc_j6 H [] [103] n hn0 hH hne hl hn (.inr ⟨rfl, by omega⟩) (.inr rfl)
      refine ⟨K + 30, fun k hk => ?_⟩
      obtain ⟨k, rfl⟩ : ∃ m, k = m + 1 := ⟨k - 1, by omega⟩
      obtain ⟨k, rfl⟩ : ∃ m, k = m + 1 := ⟨k - 1, by omega⟩
      obtain ⟨k, rfl⟩ : ∃ m, k = m + 1 := ⟨k - 1, by omega⟩
      have g := f k (by omega)
      show tapestrierlaw4_TokEscapes.j3 (k + 1 + 1 + 1) false (strOfNums H) (pt n) = _
      rw [tapestrierlaw4_TokEscapes.j3, refBytes_one _ (pt_vld hn0) _ (by omega), Option.bind_some, sH, if_pos (by omega), if_neg Bool.false_ne_true, decide_eq_false (by omega), tapestrierlaw4_TokEscapes.j4, if_neg Bool.false_ne_true, tapestrierlaw4_TokEscapes.j5, if_neg Bool.false_ne_true, e92, str_append, strOfNums_size, if_pos (by simp; omega), e103, str_append]
      rw [show [92] ++ H ++ [103] = 92 :: (H ++ ([] ++ [103])) by simp]
      exact g
  · obtain ⟨K, f⟩ := esc_j6 H [32] [] n hn0 hH hne hl hn (.inl rfl) (.inl rfl)
    refine ⟨K + 30, fun k hk => ?_⟩
    obtain ⟨k, rfl⟩ : ∃ m, k = m + 1 := ⟨k - 1, by omega⟩
    obtain ⟨k, rfl⟩ : ∃ m, k = m + 1 := ⟨k - 1, by omega⟩
    obtain ⟨k, rfl⟩ : ∃ m, k = m + 1 := ⟨k - 1, by omega⟩
    have g := f k (by omega)
    show tapestrierlaw4_TokEscapes.j3 (k + 1 + 1 + 1) true (strOfNums H) (pt n) = _
    rw [tapestrierlaw4_TokEscapes.j3, refBytes_one _ (pt_vld hn0) _ (by omega), Option.bind_some, sH, if_pos (by omega), if_pos rfl, tapestrierlaw4_TokEscapes.j4, if_pos rfl, e92, str_append, strOfNums_size, if_pos (by simp; omega), e32, str_append, tapestrierlaw4_TokEscapes.j5, if_pos rfl]
    rw [show [92] ++ H ++ [32] = 92 :: (H ++ ([32] ++ [])) by simp, e00]
    exact g
theorem esc_end (blank : Bool) (H : List Int) (n : Int) (hn0 : 0 ≤ n) (hH : ∀ c ∈ H, isH c) (hne : H ≠ []) (hl : H.length ≤ 6) (hn : H.foldl step 0 = n) :
    Ev (fun k => tapestrierlaw4_TokEscapes.l0 k n blank (strOfNums H) 0) true := by
  obtain ⟨K, f⟩ := esc_j3 blank H n hn0 hH hne hl hn
  refine ⟨K + 2, fun k hk => ?_⟩
  obtain ⟨k, rfl⟩ : ∃ m, k = m + 1 := ⟨k - 1, by omega⟩
  obtain ⟨k, rfl⟩ : ∃ m, k = m + 1 := ⟨k - 1, by omega⟩
  have g : tapestrierlaw4_TokEscapes.j3 k blank (strOfNums H) (pt n) = some true := f k (by omega)
  show tapestrierlaw4_TokEscapes.l0 (k + 1 + 1) n blank (strOfNums H) 0 = _
  rw [tapestrierlaw4_TokEscapes.l0, if_neg (by omega), if_neg (toList_ne hne)]
  have ht : tapestrierlaw4_TokEscapes.j2 (k + 1) blank (strOfNums H) n true = tapestrierlaw4_TokEscapes.j3 k blank (strOfNums H) 65533 := by rw [tapestrierlaw4_TokEscapes.j2, if_pos rfl]
  have hf : tapestrierlaw4_TokEscapes.j2 (k + 1) blank (strOfNums H) n false = tapestrierlaw4_TokEscapes.j3 k blank (strOfNums H) n := by rw [tapestrierlaw4_TokEscapes.j2, if_neg Bool.false_ne_true]
  by_cases c1 : n = 0
  · rw [if_pos c1, ht, ← g]
    unfold pt
    rw [if_pos (.inl c1)]
  · rw [if_neg c1]
    by_cases c2 : n > 1114111
    · rw [if_pos c2, ht, ← g]
      unfold pt
      rw [if_pos (.inr (.inl c2))]
    · rw [if_neg c2]
      by_cases c3 : n ≥ 55296
      · rw [if_pos c3]
        by_cases c4 : n ≤ 57343
        · rw [decide_eq_true c4, ht, ← g]
          unfold pt
          rw [if_pos (.inr (.inr ⟨c3, c4⟩))]
        · rw [decide_eq_false c4, hf, ← g]
          unfold pt
          rw [if_neg (by omega)]
      · rw [if_neg c3, hf, ← g]
        unfold pt
        rw [if_neg (by omega)]
theorem digit_str {d : Int} (h0 : 0 ≤ d) (h1 : d < 16) : (⟨#[48, 49, 50, 51, 52, 53, 54, 55, 56, 57, 97, 98, 99, 100, 101, 102]⟩ : ByteArray).extract d.toNat (d + 1).toNat = strOfNums [digH d] := by
  have hall : ∀ i < 16, (⟨#[48, 49, 50, 51, 52, 53, 54, 55, 56, 57, 97, 98, 99, 100, 101, 102]⟩ : ByteArray).extract i (i + 1) = strOfNums [digH (i : Int)] := by decide +kernel
  obtain ⟨i, rfl⟩ := Int.eq_ofNat_of_zero_le h0
  rw [show ((i : Int) + 1).toNat = i + 1 by omega, show ((i : Int)).toNat = i by omega]
  exact hall i (by omega)
theorem esc_round (blank : Bool) (H : List Int) (n x : Int) (h0 : 0 ≤ x) (h1 : x < 16777216) (hl : H.length ≤ 5) (hgo : x > 0 ∨ H = []) (k : Nat) :
    tapestrierlaw4_TokEscapes.l0 (k + 1) n blank (strOfNums H) x = tapestrierlaw4_TokEscapes.l0 k n blank (strOfNums (digH (x % 16) :: H)) (x / 16) := by
  have hd0 : 0 ≤ x % 16 := by omega
  have hd1 : x % 16 < 16 := by omega
  have e1 : (strOfNums [digH (x % 16)]).size = 1 := strOfNums_size _
  have e2 : (strOfNums H).size = H.length := strOfNums_size H
  have e3 : strOfNums [digH (x % 16)] ++ strOfNums H = strOfNums (digH (x % 16) :: H) := by rw [str_append]; rfl
  have ew : wrap64 (x % 16 + 1) = x % 16 + 1 := w64 (by omega) (by omega)
  rw [tapestrierlaw4_TokEscapes.l0, and15 h0 (by omega), ew, digit_str hd0 hd1, e1, e2, e3]
  by_cases hx : x > 0
  · rw [if_pos hx, if_pos hd0, if_pos (by omega), if_pos (by omega), if_pos (by omega)]
  · rw [if_neg hx, if_pos (by rw [hgo.resolve_left hx, toList_str]; rfl), if_pos hd0, if_pos (by omega), if_pos (by omega), if_pos (by omega)]
theorem esc_loop (blank : Bool) (n : Int) (hn0 : 0 ≤ n) : ∀ (m : Nat) (H : List Int) (x : Int), m + H.length = 6 → 0 ≤ x → x < pw m → (∀ c ∈ H, isH c) → H.foldl step x = n →
    Ev (fun k => tapestrierlaw4_TokEscapes.l0 k n blank (strOfNums H) x) true := by
  intro m
  induction m with
  | zero =>
    intro H x hl h0 h1 hH hn
    have hx : x = 0 := by simp only [pw] at h1; omega
    subst hx
    exact esc_end blank H n hn0 hH (fun e => by rw [e] at hl; simp at hl) (by omega) hn
  | succ m ih =>
    intro H x hl h0 h1 hH hn
    by_cases hgo : x > 0 ∨ H = []
    · have hb : x < 16777216 := by
        have := pw_le (j := m) (by omega)
        simp only [pw] at h1
        omega
      have hdg := digH_hex (d := x % 16) (by omega) (by omega)
      obtain ⟨K, f⟩ := ih (digH (x % 16) :: H) (x / 16) (by simp only [List.length_cons]; omega) (by omega) (by simp only [pw] at h1; omega) (fun c hc => by
        rcases List.mem_cons.1 hc with rfl | hc
        · exact hdg.1
        · exact hH c hc) (by
        rw [List.foldl_cons]
        have : step (x / 16) (digH (x % 16)) = x := by unfold step; rw [hdg.2]; omega
        rw [this]; exact hn)
      refine ⟨K + 1, fun k hk => ?_⟩
      obtain ⟨k, rfl⟩ : ∃ m, k = m + 1 := ⟨k - 1, by omega⟩
      show tapestrierlaw4_TokEscapes.l0 (k + 1) n blank (strOfNums H) x = _
      rw [esc_round blank H n x h0 hb (by omega) hgo k]
      exact f k (by omega)
    · have hx : x = 0 := by omega
      subst hx
      exact esc_end blank H n hn0 hH (fun e => hgo (.inr e)) (by omega) hn
theorem TokEscapes : tapestrierlaw4_TokEscapes.Pure := by
  intro n blank _
  refine Ev.rounds (g := fun k => tapestrierlaw4_TokEscapes.f k n blank) ?_
  by_cases h : 0 ≤ n ∧ n ≤ 16777215
  · obtain ⟨K, f⟩ := esc_loop blank n h.1 6 [] n (by simp) h.1 (by simp only [pw]; omega) (fun c hc => by cases hc) rfl
    refine ⟨K + 30, fun k hk => ?_⟩
    obtain ⟨k, rfl⟩ : ∃ m, k = m + 1 := ⟨k - 1, by omega⟩
    have g : tapestrierlaw4_TokEscapes.l0 k n blank (⟨#[]⟩ : ByteArray) n = some true := f k (by omega)
    show tapestrierlaw4_TokEscapes.f (k + 1) n blank = _
    rw [tapestrierlaw4_TokEscapes.f, alive_at (k + 1) (by omega), Option.bind_some, if_pos rfl, if_neg (by omega), decide_eq_false (by omega), tapestrierlaw4_TokEscapes.j0, if_neg Bool.false_ne_true]
    exact g
  · refine ⟨30, fun k hk => ?_⟩
    obtain ⟨k, rfl⟩ : ∃ m, k = m + 1 := ⟨k - 1, by omega⟩
    show tapestrierlaw4_TokEscapes.f (k + 1) n blank = _
    rw [tapestrierlaw4_TokEscapes.f, alive_at (k + 1) (by omega), Option.bind_some, if_pos rfl]
    by_cases c1 : n < 0
    · rw [if_pos c1, tapestrierlaw4_TokEscapes.j0, if_pos rfl]
    · rw [if_neg c1, decide_eq_true (by omega), tapestrierlaw4_TokEscapes.j0, if_pos rfl]
end Go.Proofs.YtplkkmmojanclaaDoor.Pure
