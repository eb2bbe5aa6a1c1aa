/- Part of the proof; printed or typed in this session; unused declarations and remarks struck by a program (wip/prune.py). -/
import Derived.Lib.Bytes
import Derived.Test.YtplkkmmojanclaaDoorCMeet4
set_option linter.all false
namespace Go.Proofs.YtplkkmmojanclaaDoor.Tk
open Go.RowKit Go.Proofs.YtplkkmmojanclaaDoor.My Go.Proofs.YtplkkmmojanclaaDoor.Q Go.Proofs.YtplkkmmojanclaaDoorW.PrintWords Go.Proofs.YtplkkmmojanclaaDoorW.PrintLast Go.Proofs.YtplkkmmojanclaaDoorW.PrintMore
def Byt (b : List Int) : Prop := ∀ c ∈ b, 0 ≤ c ∧ c ≤ 255
def u8 (c : Int) : UInt8 := UInt8.ofNat c.toNat
theorem sd (b : List Int) : (strOfNums b).data.toList = b.map u8 := rfl
theorem u8_nat {c : Int} (h : 0 ≤ c ∧ c ≤ 255) : ((u8 c).toNat : Int) = c := by
  unfold u8
  rw [UInt8.toNat_ofNat']
  omega
theorem u8_inj {c d : Int} (h : 0 ≤ c ∧ c ≤ 255) (h' : 0 ≤ d ∧ d ≤ 255) (e : u8 c = u8 d) : c = d := by
  rw [← u8_nat h, ← u8_nat h', e]
theorem bytesOf_str (b : List Int) (hb : Byt b) : Go.Proofs.YtplkkmmojanclaaDoorW.PrintWords.bytesOf (strOfNums b) = b := by
  unfold Go.Proofs.YtplkkmmojanclaaDoorW.PrintWords.bytesOf
  rw [sd, List.map_map]
  conv => rhs; rw [← List.map_id b]
  exact List.map_congr_left fun c hc => u8_nat (hb c hc)
theorem str_ext {a b : ByteArray} (h : a.data.toList = b.data.toList) : a = b := by
  cases a; cases b
  congr
  exact Array.ext' h
theorem str_extract (b : List Int) (i j : Nat) : (strOfNums b).extract i j = strOfNums ((b.drop i).take (j - i)) := by
  apply str_ext
  rw [sd, ByteArray.data_extract, Array.toList_extract, sd, List.map_take, List.map_drop]
theorem toList_str (b : List Int) : (strOfNums b).toList = b.map u8 := by
  rw [Lib.strOfNums_toList]
  rfl
theorem bytesConv_str (b : List Int) (hb : Byt b) (hl : b.length ≤ 9223372036854775807) : bytesConv5.f (strOfNums b) = some b := by
  unfold bytesConv5.f
  rw [if_pos (by rw [strOfNums_size]; exact hl), bytesOf_str b hb]
theorem one_list (c : Int) : (strOfNums [c]).toList = [u8 c] := by rw [toList_str]; rfl
theorem prefix_eq (b : List Int) (hb : Byt b) (c : Int) (hc : 0 ≤ c ∧ c ≤ 255) : strings_HasPrefix.f (strOfNums b) (strOfNums [c]) = some (decide (hd b 0 = c)) := by
  unfold strings_HasPrefix.f stringslite_HasPrefix.f
  rw [strOfNums_size, strOfNums_size]
  cases b with
  | nil =>
    rw [if_neg (by simp), Option.bind_some, decide_eq_false]
    rw [hd_nil]; omega
  | cons d b =>
    rw [if_pos (by simp only [List.length_cons, List.length_nil]; omega), if_pos (by omega), if_pos (by simp only [List.length_cons, List.length_nil]; omega), Option.bind_some]
    rw [show ((([c] : List Int).length : Int)).toNat = 1 from rfl, str_extract, one_list, toList_str]
    have e : ((d :: b).drop 0).take (1 - 0) = [d] := by simp
    rw [e, hd_cons]
    have hdb := hb d (by simp)
    by_cases e2 : d = c
    · subst e2
      simp
    · rw [decide_eq_false e2]
      have : u8 d ≠ u8 c := fun h => e2 (u8_inj hdb hc h)
      simp [this]
theorem index_none : ∀ (w : List Int), (∀ c ∈ w, isD c = true) → Lib.indexByte (w.map u8) 46 = -1
  | [], _ => rfl
  | c :: w, h => by
    have hc := of_decide_eq_true (h c (by simp))
    have hne : (u8 c == 46) = false := by
      apply beq_eq_false_iff_ne.2
      intro e
      have := u8_inj (c := c) (d := 46) (by omega) (by omega) e
      omega
    rw [List.map_cons, Lib.indexByte, hne, index_none w (fun d hd => h d (by simp [hd]))]
    rfl
theorem index_some : ∀ (w f : List Int), (∀ c ∈ w, isD c = true) → Lib.indexByte ((w ++ 46 :: f).map u8) 46 = w.length
  | [], f, _ => by
    rw [List.nil_append, List.map_cons, Lib.indexByte, show (u8 46 == 46) = true from rfl]
    rfl
  | c :: w, f, h => by
    have hc := of_decide_eq_true (h c (by simp))
    have hne : (u8 c == 46) = false := by
      apply beq_eq_false_iff_ne.2
      intro e
      have := u8_inj (c := c) (d := 46) (by omega) (by omega) e
      omega
    have ih := index_some w f (fun d hd => h d (by simp [hd]))
    rw [List.cons_append, List.map_cons, Lib.indexByte, hne, ih]
    have : ((w.length : Int) == -1) = false := by
      apply beq_eq_false_iff_ne.2
      omega
    rw [this]
    simp
theorem index_f (b : List Int) : stringslite_Index.f (strOfNums b) (⟨#[46]⟩ : ByteArray) = some (Lib.indexByte (b.map u8) 46) := rfl
theorem cut_none (w : List Int) (hw : ∀ c ∈ w, isD c = true) : strings_Cut.f (strOfNums w) (⟨#[46]⟩ : ByteArray) = some (strOfNums w, (⟨#[]⟩ : ByteArray), false) := by
  unfold strings_Cut.f stringslite_Cut.f
  rw [index_f, index_none w hw, Option.bind_some, if_neg (by omega), Option.bind_some]
theorem cut_some (w f : List Int) (hw : ∀ c ∈ w, isD c = true) (hl : w.length + f.length ≤ 2000000) : strings_Cut.f (strOfNums (w ++ 46 :: f)) (⟨#[46]⟩ : ByteArray) = some (strOfNums w, strOfNums f, true) := by
  have hs1 : (strOfNums (w ++ 46 :: f)).size = w.length + (f.length + 1) := by rw [strOfNums_size, List.length_append, List.length_cons]
  have hs2 : ((⟨#[46]⟩ : ByteArray).size : Int) = 1 := rfl
  unfold strings_Cut.f stringslite_Cut.f
  rw [index_f, index_some w f hw, Option.bind_some, if_pos (by omega), if_pos (by omega), if_pos (by rw [hs1]; omega), hs2, w64 (by omega) (by omega), if_pos (by omega), if_pos (by rw [hs1]; omega), Option.bind_some]
  rw [str_extract, hs1, show ((w.length : Int)).toNat = w.length by omega, show ((w.length : Int) + 1).toNat = w.length + 1 by omega, str_extract]
  have e1 : ((w ++ 46 :: f).drop 0).take (w.length - 0) = w := by simp
  have e2 : ((w ++ 46 :: f).drop (w.length + 1)).take (w.length + (f.length + 1) - (w.length + 1)) = f := by
    have : (w ++ 46 :: f).drop (w.length + 1) = f := by
      rw [← List.drop_drop, List.drop_left]
      rfl
    rw [this, show w.length + (f.length + 1) - (w.length + 1) = f.length by omega, List.take_length]
  rw [e1, e2]
theorem digits_byt {w : List Int} (hw : ∀ c ∈ w, isD c = true) : Byt w := fun c hc => by have := of_decide_eq_true (hw c hc); omega
theorem rd_at {b : List Int} {i : Nat} (h : i < b.length) : rd b (i : Int) = b[i] := by
  unfold rd
  rw [Int.toNat_natCast, List.getD_eq_getElem?_getD, List.getElem?_eq_getElem h]
  rfl
theorem digits_loop (w : List Int) (hw : ∀ c ∈ w, isD c = true) (hl : w.length ≤ 1000000) : ∀ (d i : Nat), i + d = w.length → ∀ k, d + 1 ≤ k → num_digits.l0 k w (w.length : Int) (i : Int) = some true := by
  intro d
  induction d with
  | zero =>
    intro i hi k hk
    obtain ⟨k, rfl⟩ : ∃ m, k = m + 1 := ⟨k - 1, by omega⟩
    rw [num_digits.l0, if_neg (by omega)]
  | succ d ih =>
    intro i hi k hk
    obtain ⟨k, rfl⟩ : ∃ m, k = m + 1 := ⟨k - 1, by omega⟩
    have hlt : i < w.length := by omega
    have hc := of_decide_eq_true (hw w[i] (List.getElem_mem hlt))
    rw [num_digits.l0, if_pos (by omega), if_pos (by omega), if_pos (by omega), rd_at hlt, if_neg (by omega), if_neg (by omega), wp i (by omega)]
    exact ih (i + 1) (by omega) k (by omega)
theorem digits_ev (w : List Int) (hw : ∀ c ∈ w, isD c = true) (hl : w.length ≤ 1000000) (k : Nat) (hk : w.length + 1 ≤ k) : num_digits.f k (strOfNums w) = some true := by
  unfold num_digits.f
  rw [bytesConv_str w (digits_byt hw) (by omega), Option.bind_some]
  exact digits_loop w hw (by omega) w.length 0 (by omega) k hk
def valStep (n c : Int) : Int := if n * 10 + (c - 48) < 1099511627776 then n * 10 + (c - 48) else 1099511627776
theorem valStep_range {n c : Int} (hn : 0 ≤ n ∧ n ≤ 1099511627776) (hc : isD c = true) : 0 ≤ valStep n c ∧ valStep n c ≤ 1099511627776 := by
  have := of_decide_eq_true hc
  unfold valStep
  split <;> omega
theorem foldl_range : ∀ (w : List Int) (n : Int), (∀ c ∈ w, isD c = true) → 0 ≤ n ∧ n ≤ 1099511627776 → 0 ≤ w.foldl valStep n ∧ w.foldl valStep n ≤ 1099511627776
  | [], n, _, hn => hn
  | c :: w, n, hw, hn => foldl_range w _ (fun d hd => hw d (by simp [hd])) (valStep_range hn (hw c (by simp)))
theorem whole_loop (neg : Bool) (part : ByteArray) (w : List Int) (hw : ∀ c ∈ w, isD c = true) (hl : w.length ≤ 1000000) (r : Int × Bool) :
    ∀ (d i : Nat) (n : Int), i + d = w.length → 0 ≤ n ∧ n ≤ 1099511627776 → Ev (fun k => num_Of.l1 k neg part ((w.drop i).foldl valStep n) 0) r → Ev (fun k => num_Of.l0 k neg part n w (w.length : Int) (i : Int)) r := by
  intro d
  induction d with
  | zero =>
    intro i n hi hn ⟨K, hK⟩
    rw [List.drop_eq_nil_of_le (by omega)] at hK
    refine ⟨K + 1, fun k hk => ?_⟩
    obtain ⟨k, rfl⟩ : ∃ m, k = m + 1 := ⟨k - 1, by omega⟩
    show num_Of.l0 (k + 1) neg part n w (w.length : Int) (i : Int) = _
    rw [num_Of.l0, if_neg (by omega)]
    exact hK k (by omega)
  | succ d ih =>
    intro i n hi hn hev
    have hlt : i < w.length := by omega
    have hcd := hw w[i] (List.getElem_mem hlt)
    have hc := of_decide_eq_true hcd
    rw [List.drop_eq_getElem_cons hlt, List.foldl_cons] at hev
    obtain ⟨K, hK⟩ := ih (i + 1) (valStep n w[i]) (by omega) (valStep_range hn hcd) hev
    refine ⟨K + 1, fun k hk => ?_⟩
    obtain ⟨k, rfl⟩ : ∃ m, k = m + 1 := ⟨k - 1, by omega⟩
    show num_Of.l0 (k + 1) neg part n w (w.length : Int) (i : Int) = _
    have em : mn (wrap64 ((wrap64 (n * 10)) + ((w[i] - 48) % 256))) 1099511627776 = valStep n w[i] := by
      rw [w64 (x := n * 10) (by omega) (by omega), w64 (by omega) (by omega), show (w[i] - 48) % 256 = w[i] - 48 by omega]
      unfold mn valStep
      split <;> split <;> omega
    rw [num_Of.l0, if_pos (by omega), if_pos (by omega), if_pos (by omega), rd_at hlt, em, wp i (by omega)]
    exact hK k (by omega)
theorem bt_str (f : List Int) (hf : Byt f) {i : Nat} (h : i < f.length) : bt (strOfNums f) (i : Int) = f[i] := by
  rw [← rd_bytesOf, bytesOf_str f hf, rd_at h]
theorem cap_eq (n : Int) : num_Cap.f n = some (capN n) := by
  unfold num_Cap.f num_cut_int.f
  rw [Option.bind_some]
  congr 1
  unfold mn mx capN
  repeat' split
  all_goals omega
theorem dig_range (f : List Int) (hf : ∀ c ∈ f, isD c = true) (i : Nat) : 0 ≤ dig f i ∧ dig f i ≤ 9 := by
  unfold dig
  split
  · next h =>
    have hc := of_decide_eq_true (hf f[i] (List.getElem_mem h))
    rw [List.getD_eq_getElem?_getD, List.getElem?_eq_getElem h]
    simp only [Option.getD_some]
    omega
  · omega
theorem part_step (neg : Bool) (f : List Int) (hf : ∀ c ∈ f, isD c = true) (hl : f.length ≤ 1000000) (n : Int) (hn : 0 ≤ n ∧ n ≤ 200000000000000) (i : Nat) (hi : i < 3) (k : Nat) :
    num_Of.l1 (k + 1) neg (strOfNums f) n (i : Int) = num_Of.l1 k neg (strOfNums f) (n * 10 + dig f i) ((i + 1 : Nat) : Int) := by
  have hs := strOfNums_size f
  rw [num_Of.l1, if_pos (by omega), wp i (by omega), w64 (x := n * 10) (by omega) (by omega)]
  by_cases h : i < f.length
  · have hc := of_decide_eq_true (hf f[i] (List.getElem_mem h))
    have hdg : dig f i = f[i] - 48 := by
      unfold dig
      rw [if_pos h, List.getD_eq_getElem?_getD, List.getElem?_eq_getElem h]
      rfl
    rw [if_pos (by rw [hs]; omega), if_pos (by omega), bt_str f (digits_byt hf) h, show (f[i] - 48) % 256 = f[i] - 48 by omega, w64 (by omega) (by omega), hdg]
  · have hdg : dig f i = 0 := by unfold dig; rw [if_neg h]
    rw [if_neg (by rw [hs]; omega), hdg, Int.add_zero]
theorem part_ev (neg : Bool) (w f : List Int) (hw : ∀ c ∈ w, isD c = true) (hf : ∀ c ∈ f, isD c = true) (hl : f.length ≤ 1000000) : Ev (fun k => num_Of.l1 k neg (strOfNums f) (valD w) 0) (valN neg w f, true) := by
  have hr : 0 ≤ valD w ∧ valD w ≤ 1099511627776 := foldl_range w 0 hw (by omega)
  have d0 := dig_range f hf 0
  have d1 := dig_range f hf 1
  have d2 := dig_range f hf 2
  refine ⟨4, fun k hk => ?_⟩
  obtain ⟨k, rfl⟩ : ∃ m, k = m + 1 := ⟨k - 1, by omega⟩
  have s0 := part_step neg f hf hl (valD w) (by omega) 0 (by omega) k
  refine Eq.trans s0 ?_
  obtain ⟨k, rfl⟩ : ∃ m, k = m + 1 := ⟨k - 1, by omega⟩
  rw [part_step neg f hf hl _ (by omega) 1 (by omega) k]
  obtain ⟨k, rfl⟩ : ∃ m, k = m + 1 := ⟨k - 1, by omega⟩
  rw [part_step neg f hf hl _ (by omega) 2 (by omega) k]
  obtain ⟨k, rfl⟩ : ∃ m, k = m + 1 := ⟨k - 1, by omega⟩
  rw [num_Of.l1, if_neg (by omega)]
  have ht : ((valD w * 10 + dig f 0) * 10 + dig f 1) * 10 + dig f 2 = thou w f := rfl
  rw [ht]
  have hb : 0 ≤ thou w f ∧ thou w f ≤ 2000000000000000 := by rw [← ht]; omega
  unfold valN
  cases neg
  · rw [if_neg Bool.false_ne_true, cap_eq, Option.bind_some, if_neg Bool.false_ne_true]
  · rw [if_pos rfl, w64 (by omega) (by omega), cap_eq, Option.bind_some, if_pos rfl]
theorem j2_ev (neg : Bool) (w f : List Int) (hw : ∀ c ∈ w, isD c = true) (hf : ∀ c ∈ f, isD c = true) (hlw : w.length ≤ 1000000) (hl : f.length ≤ 1000000) : Ev (fun k => num_Of.j2 k neg (strOfNums w) (strOfNums f) false) (valN neg w f, true) := by
  obtain ⟨K, hK⟩ := whole_loop neg (strOfNums f) w hw hlw (valN neg w f, true) w.length 0 0 (by omega) (by omega) (part_ev neg w f hw hf hl)
  refine ⟨K + 1, fun k hk => ?_⟩
  obtain ⟨k, rfl⟩ : ∃ m, k = m + 1 := ⟨k - 1, by omega⟩
  show num_Of.j2 (k + 1) neg (strOfNums w) (strOfNums f) false = _
  rw [num_Of.j2, if_neg Bool.false_ne_true, bytesConv_str w (digits_byt hw) (by omega), Option.bind_some]
  exact hK k (by omega)
theorem toList_ne {f : List Int} (hf : f ≠ []) : ¬ ((strOfNums f).toList = ([] : List UInt8)) := by
  rw [toList_str]
  intro e
  exact hf (List.map_eq_nil_iff.1 e)
theorem j1_some (neg : Bool) (w f : List Int) (hw : ∀ c ∈ w, isD c = true) (hf : ∀ c ∈ f, isD c = true) (hlw : w.length ≤ 1000000) (hl : f.length ≤ 1000000) (hne : f ≠ []) : Ev (fun k => num_Of.j1 k (strOfNums (w ++ 46 :: f)) neg) (valN neg w f, true) := by
  obtain ⟨K, hK⟩ := j2_ev neg w f hw hf hlw hl
  refine ⟨K + w.length + f.length + 2, fun k hk => ?_⟩
  obtain ⟨k, rfl⟩ : ∃ m, k = m + 1 := ⟨k - 1, by omega⟩
  show num_Of.j1 (k + 1) (strOfNums (w ++ 46 :: f)) neg = _
  rw [num_Of.j1, cut_some w f hw (by omega), Option.bind_some]
  dsimp only
  rw [digits_ev w hw hlw k (by omega), Option.bind_some, if_pos rfl, digits_ev f hf hl k (by omega), Option.bind_some, if_pos rfl, if_pos rfl, if_neg (toList_ne hne)]
  exact hK k (by omega)
theorem j1_none (neg : Bool) (w : List Int) (hw : ∀ c ∈ w, isD c = true) (hlw : w.length ≤ 1000000) (hne : w ≠ []) : Ev (fun k => num_Of.j1 k (strOfNums w) neg) (valN neg w [], true) := by
  obtain ⟨K, hK⟩ := j2_ev neg w [] hw (fun c hc => by cases hc) hlw (by simp)
  refine ⟨K + w.length + 2, fun k hk => ?_⟩
  obtain ⟨k, rfl⟩ : ∃ m, k = m + 1 := ⟨k - 1, by omega⟩
  have e : ((strOfNums w).toList == ([] : List UInt8)) = false := beq_eq_false_iff_ne.2 (toList_ne hne)
  have e2 := digits_ev [] (fun c hc => by cases hc) (by simp) k (by simp; omega)
  rw [strOfNums_nil] at e2
  show num_Of.j1 (k + 1) (strOfNums w) neg = _
  rw [num_Of.j1, cut_none w hw, Option.bind_some]
  dsimp only
  rw [digits_ev w hw hlw k (by omega), Option.bind_some, if_pos rfl, e2, Option.bind_some, if_pos rfl, if_neg Bool.false_ne_true, e]
  exact hK k (by omega)
end Go.Proofs.YtplkkmmojanclaaDoor.Tk
