/- Part of the proof; printed or typed in this session; unused declarations and remarks struck by a program (wip/prune.py). -/
import Derived.Test.YtplkkmmojanclaaDoorCQ20
import Derived.Test.YtplkkmmojanclaaDoorCKit
set_option linter.all false
namespace Go.Proofs.YtplkkmmojanclaaDoor.Pure
open Go.RowKit Go.Proofs.YtplkkmmojanclaaDoor.My Go.Proofs.YtplkkmmojanclaaDoor.Q Go.Proofs.YtplkkmmojanclaaDoor.Tk Go.Proofs.YtplkkmmojanclaaDoorW.PrintWords Go.Proofs.YtplkkmmojanclaaDoorW.PrintLast
def dstep (n c : Int) : Int := n * 10 + (c - 48)
def AllD (D : List Int) : Prop := ∀ c ∈ D, isD c = true
theorem AllD.pln {D : List Int} (h : AllD D) : Pln D := fun c hc => by have := of_decide_eq_true (h c hc); omega
theorem digit10 {d : Int} (h0 : 0 ≤ d) (h1 : d < 10) : (⟨#[48, 49, 50, 51, 52, 53, 54, 55, 56, 57]⟩ : ByteArray).extract d.toNat (d + 1).toNat = strOfNums [48 + d] := by
  have hall : ∀ i < 10, (⟨#[48, 49, 50, 51, 52, 53, 54, 55, 56, 57]⟩ : ByteArray).extract i (i + 1) = strOfNums [48 + (i : Int)] := by decide +kernel
  obtain ⟨i, rfl⟩ := Int.eq_ofNat_of_zero_le h0
  rw [show ((i : Int) + 1).toNat = i + 1 by omega, show ((i : Int)).toNat = i by omega]
  exact hall i (by omega)
theorem digits_ev' : ∀ (m : Nat) (n : Int), 0 ≤ n → n < 10 ^ (m + 1) → m ≤ 10 → ∃ D : List Int, AllD D ∧ D ≠ [] ∧ D.length ≤ m + 1 ∧ D.foldl dstep 0 = n ∧ ∀ k, m + 1 ≤ k → tapestrierref1_Digits.f k n = some (strOfNums D) := by
  have base : ∀ n : Int, 0 ≤ n → n ≤ 9 → ∀ k, 1 ≤ k → tapestrierref1_Digits.f k n = some (strOfNums [48 + n]) := by
    intro n h0 h9 k hk
    obtain ⟨k, rfl⟩ : ∃ m, k = m + 1 := ⟨k - 1, by omega⟩
    have et : Int.tmod n 10 = n := by rw [Int.tmod_eq_emod_of_nonneg h0]; omega
    have ew : wrap64 (n + 1) = n + 1 := w64 (by omega) (by omega)
    rw [tapestrierref1_Digits.f, et, ew, if_pos h0, if_pos (by omega), if_pos (by omega), if_neg (by omega), digit10 h0 (by omega)]
  intro m
  induction m with
  | zero =>
    intro n h0 h1 _
    have h9 : n ≤ 9 := by simpa using (show n < 10 ^ 1 from h1) |> Int.le_of_lt_add_one
    refine ⟨[48 + n], fun c hc => ?_, List.cons_ne_nil _ _, by simp, ?_, fun k hk => base n h0 h9 k hk⟩
    · simp only [List.mem_singleton] at hc
      subst hc
      apply decide_eq_true
      omega
    · show dstep 0 (48 + n) = n
      unfold dstep; omega
  | succ m ih =>
    intro n h0 h1 hm
    by_cases h9 : n ≤ 9
    · refine ⟨[48 + n], fun c hc => ?_, List.cons_ne_nil _ _, by simp, ?_, fun k hk => base n h0 h9 k (by omega)⟩
      · simp only [List.mem_singleton] at hc
        subst hc
        apply decide_eq_true
        omega
      · show dstep 0 (48 + n) = n
        unfold dstep; omega
    · have hp : (10 : Int) ^ (m + 1 + 1) = 10 ^ (m + 1) * 10 := Int.pow_succ 10 (m + 1)
      have hpm : (10 : Int) ^ (m + 1 + 1) ≤ 10 ^ 11 := by
        have : (10 : Nat) ^ (m + 1 + 1) ≤ 10 ^ 11 ∨ m = 10 := by
          by_cases e : m = 10
          · exact .inr e
          · exact .inl (Nat.pow_le_pow_right (by omega) (by omega))
        rcases this with h | h
        · exact_mod_cast h
        · omega
      have hb : n < 100000000000 := by
        have : (10 : Int) ^ 11 = 100000000000 := by decide
        omega
      obtain ⟨D, hD, hne, hlen, hv, hf⟩ := ih (n / 10) (by omega) (by omega) (by omega)
      refine ⟨D ++ [48 + n % 10], fun c hc => ?_, by simp, by simp; omega, ?_, fun k hk => ?_⟩
      · rcases List.mem_append.1 hc with hc | hc
        · exact hD c hc
        · simp only [List.mem_singleton] at hc
          subst hc
          apply decide_eq_true
          omega
      · rw [List.foldl_append, hv]
        show dstep (n / 10) (48 + n % 10) = n
        unfold dstep; omega
      · obtain ⟨k, rfl⟩ : ∃ m, k = m + 1 := ⟨k - 1, by omega⟩
        have et : Int.tmod n 10 = n % 10 := Int.tmod_eq_emod_of_nonneg h0
        have ed : Int.tdiv n 10 = n / 10 := Int.tdiv_eq_ediv_of_nonneg h0
        have ew : wrap64 (n % 10 + 1) = n % 10 + 1 := w64 (by omega) (by omega)
        have ew2 : wrap64 (n / 10) = n / 10 := w64 (by omega) (by omega)
        rw [tapestrierref1_Digits.f, et, ed, ew, ew2, if_pos (by omega), if_pos (by omega), if_pos (by omega), if_pos (by omega), hf k (by omega), Option.bind_some, digit10 (by omega) (by omega), strOfNums_size, strOfNums_size, if_pos (by simp only [List.length_cons, List.length_nil]; omega), str_append]
theorem three_digits : ∀ b < 1000, tapestrierref1_Digits.f 8 (1000 + ((b : Nat) : Int)) = some (strOfNums [49, 48 + (b : Int) / 100, 48 + (b : Int) / 10 % 10, 48 + (b : Int) % 10]) := by decide +kernel
theorem dfold_ge : ∀ (D : List Int) (n : Int), AllD D → 0 ≤ n → n ≤ D.foldl dstep n
  | [], n, _, _ => by simp
  | c :: D, n, h, h0 => by
    have hc := of_decide_eq_true (h c (by simp))
    rw [List.foldl_cons]
    have := dfold_ge D (dstep n c) (fun d hd => h d (by simp [hd])) (by unfold dstep; omega)
    unfold dstep at this ⊢
    omega
theorem valD_dec : ∀ (D : List Int) (n : Int), AllD D → 0 ≤ n → D.foldl dstep n < 1099511627776 → D.foldl valStep n = D.foldl dstep n
  | [], n, _, _, _ => rfl
  | c :: D, n, h, h0, hb => by
    have hc := of_decide_eq_true (h c (by simp))
    rw [List.foldl_cons] at hb
    rw [List.foldl_cons, List.foldl_cons]
    have hd1 : 0 ≤ dstep n c := by unfold dstep; omega
    have hge := dfold_ge D (dstep n c) (fun d hd => h d (by simp [hd])) hd1
    have e : valStep n c = dstep n c := by
      unfold dstep at hge hb ⊢
      unfold valStep
      rw [if_pos (by omega)]
    rw [e]
    exact valD_dec D _ (fun d hd => h d (by simp [hd])) hd1 hb
theorem takeD_all : ∀ (D t : List Int), AllD D → isD (hd t 0) = false → (D ++ t).takeWhile isD = D ∧ (D ++ t).dropWhile isD = t
  | [], t, _, h => takeWhile_none h
  | c :: D, t, hD, h => by
    have ih := takeD_all D t (fun d hd => hD d (by simp [hd])) h
    rw [List.cons_append, List.takeWhile_cons_of_pos (hD c (by simp)), List.dropWhile_cons_of_pos (hD c (by simp)), ih.1, ih.2]
    exact ⟨rfl, rfl⟩
def sfxOk (t : List Int) : Prop := isD (hd t 0) = false ∧ (hd t 0 ≠ 46 ∨ isD (hd t 1) = false)
theorem amt_whole (neg : Bool) (D t : List Int) (hD : AllD D) (ht : sfxOk t) : amt neg (D ++ t) = unit (valN neg D []) true t := by
  obtain ⟨h1, h2⟩ := takeD_all D t hD ht.1
  unfold amt
  rw [h1, h2, if_pos ht.2]
theorem amt_part (neg : Bool) (D f t : List Int) (hD : AllD D) (hf : AllD f) (hfne : f ≠ []) (ht : sfxOk t) : amt neg (D ++ (46 :: (f ++ t))) = unit (valN neg D f) false t := by
  obtain ⟨h1, h2⟩ := takeD_all D (46 :: (f ++ t)) hD rfl
  obtain ⟨h3, h4⟩ := takeD_all f t hf ht.1
  have hd1 : isD (hd (46 :: (f ++ t)) 1) = true := by
    rw [hd_succ]
    cases f with
    | nil => exact absurd rfl hfne
    | cons c f => rw [List.cons_append, hd_cons]; exact hf c (by simp)
  unfold amt
  rw [h1, h2, if_neg (fun h => h.elim (fun h => h rfl) (fun h => by rw [hd1] at h; cases h)), List.drop_succ_cons, List.drop_zero, h3, h4]
def sg (below : Bool) : List Int := if below then [45] else []
theorem tok_number (below : Bool) (D r : List Int) (hD : AllD D) (hne : D ≠ []) : tok (sg below ++ (D ++ r)) = amt below (D ++ r) := by
  obtain ⟨c, q, rfl⟩ : ∃ c q, D = c :: q := by
    cases D with
    | nil => exact absurd rfl hne
    | cons c q => exact ⟨c, q, rfl⟩
  have hc := of_decide_eq_true (hD c (by simp))
  have hcd : isD c = true := hD c (by simp)
  cases below
  · show tok (c :: (q ++ r)) = amt false (c :: (q ++ r))
    have hw : isW c = false := by unfold isW; apply decide_eq_false; omega
    have hs : sgn (c :: (q ++ r)) = false := by unfold sgn; rw [hd_cons]; apply decide_eq_false; omega
    rw [tok_num hw (by omega) (by omega) (by omega) (by
      unfold num numAt
      rw [hs, if_neg Bool.false_ne_true, hd_cons, hcd, Bool.true_or])]
    unfold amount
    rw [hs, if_neg Bool.false_ne_true, hd_cons, decide_eq_false (by omega)]
  · show tok (45 :: (c :: (q ++ r))) = amt true (c :: (q ++ r))
    rw [tok_num rfl (by omega) (by omega) (by omega) (by
      rw [num_sgn (.inr rfl)]
      unfold numAt
      rw [hd_cons, hcd, Bool.true_or])]
    unfold amount sgn
    rw [hd_cons, show decide ((45 : Int) = 43 ∨ (45 : Int) = 45) = true from rfl, if_pos rfl, List.drop_succ_cons, List.drop_zero]
    rfl
def ends : List (List Int) := [[], [37], [112, 120], [32, 112, 120], [46], [45], [43, 49]]
theorem ends_ok : ∀ t ∈ ends, sfxOk t ∧ Pln t ∧ t.length ≤ 3 := by
  intro t ht
  simp only [ends, List.mem_cons, List.mem_nil_iff, or_false] at ht
  rcases ht with rfl | rfl | rfl | rfl | rfl | rfl | rfl
  all_goals
    refine ⟨⟨by decide, by decide⟩, ?_, by simp⟩
    intro c hc
    simp at hc
  all_goals omega
structure Txt (behind : Int) (N : Int) (B : List Int) : Prop where
  pln : Pln B
  len : B.length ≤ 20
  tks : ∀ (below : Bool) (t : List Int), t ∈ ends → Go.Proofs.YtplkkmmojanclaaDoor.Tk.tks (sg below ++ (B ++ t)) = (unit (if below then -N else N) (decide (behind = 0)) t).1 :: Go.Proofs.YtplkkmmojanclaaDoor.Tk.tks (unit (if below then -N else N) (decide (behind = 0)) t).2
theorem cap_in {n : Int} (h : -2147483647 ≤ n) (h' : n ≤ 2147483647) : capN n = n := by
  unfold capN
  rw [if_neg (by omega), if_neg (by omega)]
theorem valN_in (below : Bool) (D f : List Int) (N : Int) (h : thou D f = N) (h0 : 0 ≤ N) (h1 : N ≤ 2147483647) : valN below D f = if below then -N else N := by
  unfold valN
  rw [h]
  cases below
  · exact cap_in (by omega) h1
  · exact cap_in (by omega) (by omega)
theorem sg_pln (below : Bool) : Pln (sg below) := by
  cases below
  · exact Pln.nil
  · exact Pln.cons (by omega) Pln.nil
theorem not47 (below : Bool) (D r : List Int) (hD : AllD D) (hne : D ≠ []) : sg below ++ (D ++ r) ≠ [] ∧ hd (sg below ++ (D ++ r)) 0 ≠ 47 := by
  obtain ⟨c, q, rfl⟩ : ∃ c q, D = c :: q := by
    cases D with
    | nil => exact absurd rfl hne
    | cons c q => exact ⟨c, q, rfl⟩
  have hc := of_decide_eq_true (hD c (by simp))
  cases below
  · refine ⟨List.cons_ne_nil _ _, ?_⟩
    show hd (c :: (q ++ r)) 0 ≠ 47
    rw [hd_cons]; omega
  · refine ⟨List.cons_ne_nil _ _, ?_⟩
    show hd (45 :: (c :: (q ++ r))) 0 ≠ 47
    rw [hd_cons]; omega
theorem txt_whole (whole : Int) (h0 : 0 ≤ whole) (h1 : whole ≤ 2000000) (D : List Int) (hD : AllD D) (hne : D ≠ []) (hl : D.length ≤ 10) (hv : D.foldl dstep 0 = whole) : Txt 0 (whole * 1000) D := by
  refine ⟨hD.pln, by omega, fun below t ht => ?_⟩
  obtain ⟨hs, hp, _⟩ := ends_ok t ht
  have hp2 : Pln (sg below ++ (D ++ t)) := (sg_pln below).app (hD.pln.app hp)
  have hn := not47 below D t hD hne
  have hval : valD D = whole := by rw [valD_eq, valD_dec D 0 hD (by omega) (by omega), hv]
  have hth : thou D [] = whole * 1000 := by
    unfold thou dig
    rw [hval, if_neg (by simp), if_neg (by simp), if_neg (by simp)]
    omega
  rw [tks_tok hp2.vld hn.1 (fun e => hn.2 e.1), tok_number below D t hD hne, amt_whole below D t hD hs, valN_in below D [] _ hth (by omega) (by omega)]
  rfl
theorem txt_part (whole behind : Int) (h0 : 0 ≤ whole) (h1 : whole ≤ 2000000) (hb0 : 0 < behind) (hb1 : behind ≤ 999) (D : List Int) (hD : AllD D) (hne : D ≠ []) (hl : D.length ≤ 10) (hv : D.foldl dstep 0 = whole) :
    Txt behind (whole * 1000 + behind) (D ++ (46 :: [48 + behind / 100, 48 + behind / 10 % 10, 48 + behind % 10])) := by
  have hf : AllD [48 + behind / 100, 48 + behind / 10 % 10, 48 + behind % 10] := fun c hc => by
    simp only [List.mem_cons, List.mem_nil_iff, or_false] at hc
    apply decide_eq_true
    rcases hc with rfl | rfl | rfl <;> omega
  refine ⟨hD.pln.app (Pln.cons (by omega) hf.pln), by simp; omega, fun below t ht => ?_⟩
  obtain ⟨hs, hp, _⟩ := ends_ok t ht
  have e : D ++ (46 :: [48 + behind / 100, 48 + behind / 10 % 10, 48 + behind % 10]) ++ t = D ++ (46 :: ([48 + behind / 100, 48 + behind / 10 % 10, 48 + behind % 10] ++ t)) := by simp
  rw [e]
  have hp2 : Pln (sg below ++ (D ++ (46 :: ([48 + behind / 100, 48 + behind / 10 % 10, 48 + behind % 10] ++ t)))) := (sg_pln below).app (hD.pln.app (Pln.cons (by omega) (hf.pln.app hp)))
  have hn := not47 below D (46 :: ([48 + behind / 100, 48 + behind / 10 % 10, 48 + behind % 10] ++ t)) hD hne
  have hval : valD D = whole := by rw [valD_eq, valD_dec D 0 hD (by omega) (by omega), hv]
  have hth : thou D [48 + behind / 100, 48 + behind / 10 % 10, 48 + behind % 10] = whole * 1000 + behind := by
    unfold thou dig
    rw [hval, if_pos (by simp), if_pos (by simp), if_pos (by simp)]
    simp only [List.getD_cons_zero, List.getD_cons_succ]
    omega
  rw [tks_tok hp2.vld hn.1 (fun e => hn.2 e.1), tok_number below D _ hD hne, amt_part below D _ t hD hf (List.cons_ne_nil _ _) hs, valN_in below D _ _ hth (by omega) (by omega), decide_eq_false (show ¬ behind = 0 by omega)]
theorem num_j3 (below : Bool) (behind N : Int) (B : List Int) (hB : Txt behind N B) (w : Int) (A : List ByteArray) (W : List (List S31)) (h0 : 0 ≤ w) (t : List Int) (ht : t ∈ ends) (hA : w < (A.length : Int)) (hW : w < (W.length : Int)) (eA : rdOf ByteArray.empty A w = strOfNums t)
    (eW : rd_L5 W w = (tks (sg below ++ (B ++ t))).map tokS) : Ev (fun k => tapestrierlaw4_TokNumbers.j3 k w (strOfNums (sg below ++ B)) A W false) true := by
  obtain ⟨hs, hp, hl⟩ := ends_ok t ht
  have p : Pln (sg below ++ (B ++ t)) := (sg_pln below).app (hB.pln.app hp)
  have hlen : (sg below ++ (B ++ t)).length ≤ 40 := by
    have := hB.len
    have : (sg below).length ≤ 1 := by cases below <;> simp [sg]
    simp only [List.length_append]; omega
  have hlen2 : (sg below ++ B).length ≤ 40 := by simp only [List.length_append] at hlen ⊢; omega
  obtain ⟨K, f⟩ := of_ev _ p.byt (by omega)
  have hto := toksOf_len (sg below ++ (B ++ t))
  rw [toks_plain p] at f hto
  refine ⟨K + 100, fun k hk => ?_⟩
  obtain ⟨k, rfl⟩ : ∃ m, k = m + 1 := ⟨k - 1, by omega⟩
  have g : tapestrierlaw4_Of.f k (sg below ++ (B ++ t)) = _ := f k (by omega)
  show tapestrierlaw4_TokNumbers.j3 (k + 1) w (strOfNums (sg below ++ B)) A W false = _
  rw [tapestrierlaw4_TokNumbers.j3, if_neg Bool.false_ne_true, if_pos h0, if_pos hA, eA, strOfNums_size, strOfNums_size, if_pos (by omega), str_append, List.append_assoc, conv_ev _ p.byt (by omega), Option.bind_some, g, Option.bind_some, if_pos hW, eW, same_ev _ (by omega) k (by omega), Option.bind_some]
theorem num_j2 (below : Bool) (behind N : Int) (B : List Int) (hB : Txt behind N B) (w : Int) : Ev (fun k => tapestrierlaw4_TokNumbers.j2 k behind w (strOfNums (sg below ++ B)) (if below then -N else N)) true := by
  generalize hM : (if below then -N else N) = M
  have key : ∀ (A : List ByteArray) (W : List (List S31)), A = [(⟨#[]⟩ : ByteArray), (⟨#[37]⟩ : ByteArray), (⟨#[112, 120]⟩ : ByteArray), (⟨#[32, 112, 120]⟩ : ByteArray), (⟨#[46]⟩ : ByteArray), (⟨#[45]⟩ : ByteArray), (⟨#[43, 49]⟩ : ByteArray)] →
      W = [([⟨6, (⟨#[]⟩ : ByteArray), M, (behind == 0), 0⟩] : List S31), [⟨7, (⟨#[]⟩ : ByteArray), M, false, 0⟩], [⟨8, (⟨#[112, 120]⟩ : ByteArray), M, false, 0⟩], [⟨6, (⟨#[]⟩ : ByteArray), M, (behind == 0), 0⟩, ⟨9, (⟨#[]⟩ : ByteArray), 0, false, 0⟩, ⟨1, (⟨#[112, 120]⟩ : ByteArray), 0, false, 0⟩], [⟨6, (⟨#[]⟩ : ByteArray), M, (behind == 0), 0⟩, ⟨10, (⟨#[]⟩ : ByteArray), 0, false, 46⟩], [⟨6, (⟨#[]⟩ : ByteArray), M, (behind == 0), 0⟩, ⟨10, (⟨#[]⟩ : ByteArray), 0, false, 45⟩], [⟨6, (⟨#[]⟩ : ByteArray), M, (behind == 0), 0⟩, ⟨6, (⟨#[]⟩ : ByteArray), 1000, true, 0⟩]] →
      0 ≤ w → w < 7 → Ev (fun k => tapestrierlaw4_TokNumbers.j3 k w (strOfNums (sg below ++ B)) A W false) true := by
    intro A W hA hW h0 h7
    have lA : (A.length : Int) = 7 := by rw [hA]; rfl
    have lW : (W.length : Int) = 7 := by rw [hW]; rfl
    have hwh : (behind == 0) = decide (behind = 0) := rfl
    have ht : ∀ t ∈ ends, (tks (sg below ++ (B ++ t))).map tokS = tokS (unit M (decide (behind = 0)) t).1 :: (tks (unit M (decide (behind = 0)) t).2).map tokS := fun t ht => by
      rw [hB.tks below t ht, hM]; rfl
    have hcase : w = 0 ∨ w = 1 ∨ w = 2 ∨ w = 3 ∨ w = 4 ∨ w = 5 ∨ w = 6 := by omega
    rcases hcase with rfl | rfl | rfl | rfl | rfl | rfl | rfl
    · refine num_j3 below behind N B hB 0 A W h0 [] (by decide) (by omega) (by omega) (by rw [hA]; rfl) ?_
      rw [ht _ (by decide), hW]; rfl
    · refine num_j3 below behind N B hB 1 A W h0 [37] (by decide) (by omega) (by omega) (by rw [hA]; rfl) ?_
      rw [ht _ (by decide), hW]; rfl
    · refine num_j3 below behind N B hB 2 A W h0 [112, 120] (by decide) (by omega) (by omega) (by rw [hA]; rfl) ?_
      rw [ht _ (by decide), hW]
      have e : unit M (decide (behind = 0)) [112, 120] = ({ k := 8, n := M, t := [112, 120] }, []) := by
        unfold unit
        rw [show nam [112, 120] 0 = true by decide, if_pos rfl, show name [112, 120] = ([112, 120], []) by decide +kernel]
      rw [e]; rfl
    · refine num_j3 below behind N B hB 3 A W h0 [32, 112, 120] (by decide) (by omega) (by omega) (by rw [hA]; rfl) ?_
      rw [ht _ (by decide), hW]
      have e : unit M (decide (behind = 0)) [32, 112, 120] = ({ k := 6, n := M, w := decide (behind = 0) }, [32, 112, 120]) := by
        unfold unit
        rw [show nam [32, 112, 120] 0 = false by decide, if_neg Bool.false_ne_true, if_neg (by decide)]
      rw [e]
      dsimp only
      rw [show tks [32, 112, 120] = [{ k := 9 }, { k := 1, t := [112, 120] }] by decide +kernel]; rfl
    · refine num_j3 below behind N B hB 4 A W h0 [46] (by decide) (by omega) (by omega) (by rw [hA]; rfl) ?_
      rw [ht _ (by decide), hW]
      have e : unit M (decide (behind = 0)) [46] = ({ k := 6, n := M, w := decide (behind = 0) }, [46]) := by
        unfold unit
        rw [show nam [46] 0 = false by decide, if_neg Bool.false_ne_true, if_neg (by decide)]
      rw [e]
      dsimp only
      rw [show tks [46] = [{ k := 10, c := 46 }] by decide +kernel]; rfl
    · refine num_j3 below behind N B hB 5 A W h0 [45] (by decide) (by omega) (by omega) (by rw [hA]; rfl) ?_
      rw [ht _ (by decide), hW]
      have e : unit M (decide (behind = 0)) [45] = ({ k := 6, n := M, w := decide (behind = 0) }, [45]) := by
        unfold unit
        rw [show nam [45] 0 = false by decide, if_neg Bool.false_ne_true, if_neg (by decide)]
      rw [e]
      dsimp only
      rw [show tks [45] = [{ k := 10, c := 45 }] by decide +kernel]; rfl
    · refine num_j3 below behind N B hB 6 A W h0 [43, 49] (by decide) (by omega) (by omega) (by rw [hA]; rfl) ?_
      rw [ht _ (by decide), hW]
      have e : unit M (decide (behind = 0)) [43, 49] = ({ k := 6, n := M, w := decide (behind = 0) }, [43, 49]) := by
        unfold unit
        rw [show nam [43, 49] 0 = false by decide, if_neg Bool.false_ne_true, if_neg (by decide)]
      rw [e]
      dsimp only
      rw [show tks [43, 49] = [{ k := 6, n := 1000, w := true }] by decide +kernel]; rfl
  by_cases hin : 0 ≤ w ∧ w < 7
  · obtain ⟨K, f⟩ := key _ _ rfl rfl hin.1 hin.2
    refine ⟨K + 1, fun k hk => ?_⟩
    obtain ⟨k, rfl⟩ : ∃ m, k = m + 1 := ⟨k - 1, by omega⟩
    have g := f k (by omega)
    show tapestrierlaw4_TokNumbers.j2 (k + 1) behind w (strOfNums (sg below ++ B)) M = _
    rw [tapestrierlaw4_TokNumbers.j2, Option.bind_some, Option.bind_some, if_neg (by omega), decide_eq_false (by simp only [List.length_cons, List.length_nil]; omega)]
    exact g
  · refine ⟨2, fun k hk => ?_⟩
    obtain ⟨k, rfl⟩ : ∃ m, k = m + 1 := ⟨k - 1, by omega⟩
    obtain ⟨k, rfl⟩ : ∃ m, k = m + 1 := ⟨k - 1, by omega⟩
    have hj : ∀ A W, tapestrierlaw4_TokNumbers.j3 (k + 1) w (strOfNums (sg below ++ B)) A W true = some true := fun A W => by rw [tapestrierlaw4_TokNumbers.j3, if_pos rfl]
    show tapestrierlaw4_TokNumbers.j2 (k + 1 + 1) behind w (strOfNums (sg below ++ B)) M = _
    rw [tapestrierlaw4_TokNumbers.j2, Option.bind_some, Option.bind_some]
    by_cases c1 : w < 0
    · rw [if_pos c1, hj]
    · rw [if_neg c1, decide_eq_true (by simp only [List.length_cons, List.length_nil]; omega), hj]
theorem num_j1 (below : Bool) (behind N : Int) (hN : 0 ≤ N ∧ N ≤ 3000000000) (B : List Int) (hB : Txt behind N B) (w : Int) : Ev (fun k => tapestrierlaw4_TokNumbers.j1 k behind below w (strOfNums B) N) true := by
  obtain ⟨K, f⟩ := num_j2 below behind N B hB w
  have hlen := hB.len
  refine ⟨K + 1, fun k hk => ?_⟩
  obtain ⟨k, rfl⟩ : ∃ m, k = m + 1 := ⟨k - 1, by omega⟩
  have g := f k (by omega)
  show tapestrierlaw4_TokNumbers.j1 (k + 1) behind below w (strOfNums B) N = _
  cases below
  · rw [tapestrierlaw4_TokNumbers.j1, if_neg Bool.false_ne_true]
    exact g
  · rw [tapestrierlaw4_TokNumbers.j1, if_pos rfl, strOfNums_size, if_pos (by omega), show (⟨#[45]⟩ : ByteArray) = strOfNums [45] from rfl, str_append, w64 (by omega) (by omega)]
    exact g
theorem num_j0 (whole behind : Int) (below : Bool) (w : Int) (h0 : 0 ≤ whole) (h1 : whole ≤ 2000000) (hb0 : 0 ≤ behind) (hb1 : behind ≤ 999) : Ev (fun k => tapestrierlaw4_TokNumbers.j0 k whole behind below w true false) true := by
  obtain ⟨D, hD, hne, hl, hv, hf⟩ := digits_ev' 6 whole h0 (by omega) (by omega)
  have ew : wrap64 (whole * 1000) = whole * 1000 := w64 (by omega) (by omega)
  by_cases hb : behind > 0
  · obtain ⟨K, f⟩ := num_j1 below behind (whole * 1000 + behind) (by omega) _ (txt_part whole behind h0 h1 hb hb1 D hD hne (by omega) hv) w
    refine ⟨K + 20, fun k hk => ?_⟩
    obtain ⟨k, rfl⟩ : ∃ m, k = m + 1 := ⟨k - 1, by omega⟩
    have g := f k (by omega)
    have h3 : tapestrierref1_Digits.f k (1000 + behind) = some (strOfNums [49, 48 + behind / 100, 48 + behind / 10 % 10, 48 + behind % 10]) := by
      obtain ⟨b, rfl⟩ := Int.eq_ofNat_of_zero_le hb0
      exact at_rounds (g := fun k => tapestrierref1_Digits.f k (1000 + ((b : Nat) : Int))) (fun k => tapestrierref1_Digits.mono _ k) (show 8 ≤ k by omega) (three_digits b (by omega))
    have ex : (strOfNums [49, 48 + behind / 100, 48 + behind / 10 % 10, 48 + behind % 10]).extract 1 (strOfNums [49, 48 + behind / 100, 48 + behind / 10 % 10, 48 + behind % 10]).size = strOfNums [48 + behind / 100, 48 + behind / 10 % 10, 48 + behind % 10] := by
      rw [str_extract, strOfNums_size]
      rfl
    show tapestrierlaw4_TokNumbers.j0 (k + 1) whole behind below w true false = _
    rw [tapestrierlaw4_TokNumbers.j0, if_neg Bool.false_ne_true, hf k (by omega), Option.bind_some, if_pos hb, w64 (by omega) (by omega), h3, Option.bind_some, strOfNums_size, if_pos (by omega), ex, strOfNums_size, if_pos (by simp only [List.length_cons, List.length_nil]; omega), show (⟨#[46]⟩ : ByteArray) = strOfNums [46] from rfl, str_append, strOfNums_size, strOfNums_size, if_pos (by simp only [List.length_append, List.length_cons, List.length_nil]; omega), str_append, ew, w64 (by omega) (by omega)]
    rw [show D ++ [46] ++ [48 + behind / 100, 48 + behind / 10 % 10, 48 + behind % 10] = D ++ (46 :: [48 + behind / 100, 48 + behind / 10 % 10, 48 + behind % 10]) by simp]
    exact g
  · obtain rfl : behind = 0 := by omega
    obtain ⟨K, f⟩ := num_j1 below 0 (whole * 1000) (by omega) _ (txt_whole whole h0 h1 D hD hne (by omega) hv) w
    refine ⟨K + 20, fun k hk => ?_⟩
    obtain ⟨k, rfl⟩ : ∃ m, k = m + 1 := ⟨k - 1, by omega⟩
    have g := f k (by omega)
    show tapestrierlaw4_TokNumbers.j0 (k + 1) whole 0 below w true false = _
    rw [tapestrierlaw4_TokNumbers.j0, if_neg Bool.false_ne_true, hf k (by omega), Option.bind_some, if_neg hb, ew]
    exact g
theorem TokNumbers : tapestrierlaw4_TokNumbers.Pure := by
  intro whole behind below w _ _ _
  refine Ev.rounds (g := fun k => tapestrierlaw4_TokNumbers.f k whole behind below w) ?_
  have ht : ∀ k, tapestrierlaw4_TokNumbers.j0 (k + 1) whole behind below w true true = some true := fun k => by rw [tapestrierlaw4_TokNumbers.j0, if_pos rfl]
  by_cases h : 0 ≤ whole ∧ whole ≤ 2000000 ∧ 0 ≤ behind ∧ behind ≤ 999
  · obtain ⟨K, f⟩ := num_j0 whole behind below w h.1 h.2.1 h.2.2.1 h.2.2.2
    refine ⟨K + 30, fun k hk => ?_⟩
    have g := f k (by omega)
    show tapestrierlaw4_TokNumbers.f k whole behind below w = _
    rw [tapestrierlaw4_TokNumbers.f, alive_at k (by omega), Option.bind_some, if_pos rfl, if_neg (by omega), if_neg (by omega), if_neg (by omega), decide_eq_false (by omega)]
    exact g
  · refine ⟨30, fun k hk => ?_⟩
    obtain ⟨k, rfl⟩ : ∃ m, k = m + 1 := ⟨k - 1, by omega⟩
    show tapestrierlaw4_TokNumbers.f (k + 1) whole behind below w = _
    rw [tapestrierlaw4_TokNumbers.f, alive_at (k + 1) (by omega), Option.bind_some, if_pos rfl]
    by_cases c1 : whole < 0
    · rw [if_pos c1, ht]
    · rw [if_neg c1]
      by_cases c2 : whole > 2000000
      · rw [if_pos c2, ht]
      · rw [if_neg c2]
        by_cases c3 : behind < 0
        · rw [if_pos c3, ht]
        · rw [if_neg c3, decide_eq_true (by omega), ht]
end Go.Proofs.YtplkkmmojanclaaDoor.Pure
