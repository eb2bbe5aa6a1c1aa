/- Part of the proof; printed or typed in this session; unused declarations and remarks struck by a program (wip/prune.py). -/
import Derived.Test.YtplkkmmojanclaaDoorCQ21
import Derived.Test.YtplkkmmojanclaaDoorCSplit
set_option linter.all false
namespace Go.Proofs.YtplkkmmojanclaaDoor.Pure
open Go.RowKit Go.Proofs.YtplkkmmojanclaaDoor.My Go.Proofs.YtplkkmmojanclaaDoor.Q Go.Proofs.YtplkkmmojanclaaDoor.Tk Go.Proofs.YtplkkmmojanclaaDoorW.PrintWords Go.Proofs.YtplkkmmojanclaaDoorW.PrintLast
def clA (d : Int) : Prop := d ≠ 92 ∧ d ≠ 34 ∧ d ≠ 39 ∧ d ≠ 47
def clB (d : Int) : Prop := d ≠ 42 ∧ d ≠ 47
theorem past_none : ∀ {B : List Int}, (∀ d ∈ B, d ≠ 42) → past B = []
  | [], _ => rfl
  | d :: B, h => by
    unfold past
    rw [if_neg (fun e => h d (by simp) e.1)]
    exact past_none fun e he => h e (by simp [he])
theorem past_some : ∀ {B : List Int} (r : List Int), (∀ d ∈ B, d ≠ 42) → past (B ++ 42 :: 47 :: r) = r
  | [], r, _ => by
    rw [List.nil_append]
    unfold past
    rw [if_pos ⟨rfl, rfl⟩]
    rfl
  | d :: B, r, h => by
    rw [List.cons_append]
    unfold past
    rw [if_neg (fun e => h d (by simp) e.1)]
    exact past_some r fun e he => h e (by simp [he])
theorem vcons {c : Int} {s : List Int} (hc : Vld c) (hs : AllV s) : AllV (c :: s) := fun d hd => by
  rcases List.mem_cons.1 hd with rfl | hd
  · exact hc
  · exact hs d hd
theorem vapp {a b : List Int} (ha : AllV a) (hb : AllV b) : AllV (a ++ b) := fun d hd => (List.mem_append.1 hd).elim (ha d) (hb d)
theorem v47 : Vld 47 := by unfold Vld; omega
theorem v42 : Vld 42 := by unfold Vld; omega
theorem v32 : Vld 32 := by unfold Vld; omega
theorem vnil : AllV [] := fun c hc => by cases hc
section
variable (a b : List Int) (ha : Byt a) (hb : Byt b) (hca : ∀ d ∈ a, clA d) (hcb : ∀ d ∈ b, clB d)
include hb hcb in
theorem no42 : ∀ d ∈ (prep b).map cp, d ≠ 42 := fun d hd e => (hcb d (prep_cp_mem hb hd (by omega) (by omega))).1 e
theorem cp_open : (prep (a ++ [47, 42] ++ b)).map cp = (prep a).map cp ++ 47 :: 42 :: (prep b).map cp := by
  rw [show a ++ [47, 42] ++ b = a ++ 47 :: 42 :: b by simp, prep_split (by omega) (by omega), prep_cons (by omega) (by omega), prep_cons (by omega) (by omega), List.map_append, List.map_cons, List.map_cons]
  rfl
theorem cp_rest : (prep ([47, 42] ++ b ++ [42, 47])).map cp = 47 :: 42 :: ((prep b).map cp ++ 42 :: 47 :: []) := by
  rw [show [47, 42] ++ b ++ [42, 47] = 47 :: 42 :: (b ++ 42 :: [47]) by simp, prep_cons (by omega) (by omega), prep_cons (by omega) (by omega), prep_split (by omega) (by omega), prep_cons (by omega) (by omega), prep_cons (by omega) (by omega), List.map_cons, List.map_cons, List.map_append, List.map_cons, List.map_cons]
  rfl
theorem cp_all : (prep (a ++ [47, 42] ++ b ++ [42, 47, 32])).map cp = (prep a).map cp ++ 47 :: 42 :: ((prep b).map cp ++ 42 :: 47 :: [32]) := by
  rw [show a ++ [47, 42] ++ b ++ [42, 47, 32] = a ++ 47 :: 42 :: (b ++ 42 :: [47, 32]) by simp, prep_split (by omega) (by omega), prep_cons (by omega) (by omega), prep_cons (by omega) (by omega), prep_split (by omega) (by omega), prep_cons (by omega) (by omega), prep_cons (by omega) (by omega), prep_cons (by omega) (by omega), List.map_append, List.map_cons, List.map_cons, List.map_append, List.map_cons, List.map_cons, List.map_cons]
  rfl
theorem tks_com {s : List Int} (hv : AllV (47 :: 42 :: s)) : tks (47 :: 42 :: s) = tks (past s) := by
  rw [tks_comment hv ⟨rfl, rfl⟩]
  rfl
include hb hcb in
theorem toks_rest : toksOf ([47, 42] ++ b ++ [42, 47]) = [] := by
  have hB := (At.zero (prep b)).vld
  unfold toksOf
  rw [cp_rest, tks_com (vcons v47 (vcons v42 (vapp hB (vcons v42 (vcons v47 vnil))))), past_some [] (no42 b hb hcb)]
  rfl
include ha hca hb hcb in
theorem toks_open : toksOf (a ++ [47, 42] ++ b) = toksOf a := by
  have hA := (At.zero (prep a)).vld
  have hB := (At.zero (prep b)).vld
  have hcl : Cln ((prep a).map cp) := cln_prep ha (fun d hd => ⟨(hca d hd).2.1, (hca d hd).2.2.1, (hca d hd).1, (hca d hd).2.2.2⟩)
  have hv := vcons v47 (vcons v42 hB)
  unfold toksOf
  rw [cp_open, tks_split (.inl rfl) _ _ (Nat.le_refl _) hcl (vapp hA hv), tks_com hv, past_none (no42 b hb hcb), tks_nil, List.append_nil]
include ha hca hb hcb in
theorem toks_all : toksOf (a ++ [47, 42] ++ b ++ [42, 47, 32]) = toksOf a ++ [⟨9, (⟨#[]⟩ : ByteArray), 0, false, 0⟩] := by
  have hA := (At.zero (prep a)).vld
  have hB := (At.zero (prep b)).vld
  have hcl : Cln ((prep a).map cp) := cln_prep ha (fun d hd => ⟨(hca d hd).2.1, (hca d hd).2.2.1, (hca d hd).1, (hca d hd).2.2.2⟩)
  have hv := vcons v47 (vcons v42 (vapp hB (vcons v42 (vcons v47 (vcons v32 vnil)))))
  unfold toksOf
  rw [cp_all, tks_split (.inl rfl) _ _ (Nat.le_refl _) hcl (vapp hA hv), tks_com hv, past_some [32] (no42 b hb hcb), show tks [32] = [{ k := 9 }] by decide +kernel, List.map_append]
  rfl
end
theorem com_end (a b c : List Int) (ha : Byt a) (hb : Byt b) (hc : Byt c) (hla : a.length ≤ 300) (hlb : b.length ≤ 300) (hlc : c.length ≤ 300) (hca : ∀ d ∈ a, clA d) (hcb : ∀ d ∈ b, clB d) :
    Ev (fun k => tapestrierlaw4_TokComments.l1 k a b c (a.length : Int)) true := by
  have h2 : Byt [47, 42] := fun c hc => by simp at hc; omega
  have h3 : Byt [42, 47] := fun c hc => by simp at hc; omega
  have h4 : Byt [42, 47, 32] := fun c hc => by simp at hc; omega
  have b1 := bytesOf_app _ _ (bytesOf_app _ _ h2 hb) h3
  have b2 := bytesOf_app _ b (bytesOf_app a _ ha h2) hb
  have b3 := bytesOf_app _ _ b2 h4
  obtain ⟨K0, f0⟩ := of_ev a ha (by omega)
  obtain ⟨K1, f1⟩ := of_ev _ b1 (by simp; omega)
  obtain ⟨K2, f2⟩ := of_ev _ b2 (by simp; omega)
  obtain ⟨K3, f3⟩ := of_ev _ b3 (by simp; omega)
  obtain ⟨K4, f4⟩ := of_ev c hc (by omega)
  rw [toks_rest b hb hcb] at f1
  rw [toks_open a b ha hb hca hcb] at f2
  rw [toks_all a b ha hb hca hcb] at f3
  have l0 := toksOf_len a
  have l4 := toksOf_len c
  refine ⟨max K0 (max K1 (max K2 (max K3 K4))) + 2000, fun k hk => ?_⟩
  obtain ⟨k, rfl⟩ : ∃ m, k = m + 1 := ⟨k - 1, by omega⟩
  have g0 : tapestrierlaw4_Of.f k a = some (toksOf a) := f0 k (by omega)
  have g1 : tapestrierlaw4_Of.f k ([47, 42] ++ b ++ [42, 47]) = some [] := f1 k (by omega)
  have g2 : tapestrierlaw4_Of.f k (a ++ [47, 42] ++ b) = some (toksOf a) := f2 k (by omega)
  have g3 : tapestrierlaw4_Of.f k (a ++ [47, 42] ++ b ++ [42, 47, 32]) = some (toksOf a ++ [⟨9, (⟨#[]⟩ : ByteArray), 0, false, 0⟩]) := f3 k (by omega)
  have g4 : tapestrierlaw4_Of.f k c = some (toksOf c) := f4 k (by omega)
  have e2 : Go.Proofs.YtplkkmmojanclaaDoorW.PrintWords.bytesOf (⟨#[47, 42]⟩ : ByteArray) = [47, 42] := bytesOf_str [47, 42] h2
  have e2' : Go.Proofs.YtplkkmmojanclaaDoorW.PrintWords.bytesOf (strOfNums [47, 42]) = [47, 42] := bytesOf_str [47, 42] h2
  have e3 : Go.Proofs.YtplkkmmojanclaaDoorW.PrintWords.bytesOf (⟨#[42, 47]⟩ : ByteArray) = [42, 47] := bytesOf_str [42, 47] h3
  have e4 : Go.Proofs.YtplkkmmojanclaaDoorW.PrintWords.bytesOf (⟨#[42, 47, 32]⟩ : ByteArray) = [42, 47, 32] := bytesOf_str [42, 47, 32] h4
  have s2 : (strOfNums [47, 42]).size = 2 := strOfNums_size _
  have s3 : (⟨#[42, 47]⟩ : ByteArray).size = 2 := rfl
  have ea : constAppp5.f (strOfNums [47, 42]) b (⟨#[42, 47]⟩ : ByteArray) = some ([47, 42] ++ b ++ [42, 47]) := by
    unfold constAppp5.f
    rw [s2, s3, if_pos (by omega), e2', e3]
  show tapestrierlaw4_TokComments.l1 (k + 1) a b c (a.length : Int) = _
  rw [tapestrierlaw4_TokComments.l1, if_neg (by omega), g0, Option.bind_some, ea, Option.bind_some, g1, Option.bind_some, List.length_nil, if_pos (by omega), Option.bind_some, List.nil_append, if_pos (by omega), Option.bind_some, e2, List.length_append, List.length_cons, List.length_cons, List.length_nil, if_pos (by omega), Option.bind_some, List.length_append, List.length_append, List.length_cons, List.length_cons, List.length_nil, if_pos (by omega), e4, g3, Option.bind_some, Option.bind_some, if_pos (by omega), Option.bind_some, List.length_append, List.length_cons, List.length_cons, List.length_nil, if_pos (by omega), g2, Option.bind_some, List.length_nil, if_pos (by omega), same_ev _ (by omega) k (by omega), Option.bind_some, if_pos rfl, if_pos (by omega), Option.bind_some, List.nil_append, if_pos (by omega), same_ev _ (by simp; omega) k (by simp; omega), Option.bind_some, if_pos rfl, g4, Option.bind_some, decide_eq_true (by omega)]
theorem com_l1 (a b c : List Int) (ha : Byt a) (hb : Byt b) (hc : Byt c) (hla : a.length ≤ 300) (hlb : b.length ≤ 300) (hlc : c.length ≤ 300) (hcb : ∀ d ∈ b, clB d) : ∀ (d i : Nat), i + d = a.length → (∀ j, (h : j < a.length) → j < i → clA a[j]) → Ev (fun k => tapestrierlaw4_TokComments.l1 k a b c (i : Int)) true := by
  intro d
  induction d with
  | zero =>
    intro i hi hok
    have hL : ∀ c ∈ a, clA c := fun c hc => by
      obtain ⟨j, hj, rfl⟩ := List.getElem_of_mem hc
      exact hok j hj (by omega)
    obtain rfl : i = a.length := by omega
    exact com_end a b c ha hb hc hla hlb hlc hL hcb
  | succ d ih =>
    intro i hi hok
    have hlt : i < a.length := by omega
    by_cases hcl : clA a[i]
    · obtain ⟨K, f⟩ := ih (i + 1) (by omega) (fun j hj hji => by
        by_cases e : j = i
        · subst e; exact hcl
        · exact hok j hj (by omega))
      refine ⟨K + 1, fun k hk => ?_⟩
      obtain ⟨k, rfl⟩ : ∃ m, k = m + 1 := ⟨k - 1, by omega⟩
      unfold clA at hcl
      show tapestrierlaw4_TokComments.l1 (k + 1) a b c (i : Int) = _
      rw [tapestrierlaw4_TokComments.l1, if_pos (by omega), if_pos (by omega), rd_at hlt, if_neg hcl.1, if_neg hcl.2.1, if_neg hcl.2.2.1, if_neg hcl.2.2.2, wp i (by omega)]
      exact f k (by omega)
    · refine ⟨1, fun k hk => ?_⟩
      obtain ⟨k, rfl⟩ : ∃ m, k = m + 1 := ⟨k - 1, by omega⟩
      unfold clA at hcl
      show tapestrierlaw4_TokComments.l1 (k + 1) a b c (i : Int) = _
      rw [tapestrierlaw4_TokComments.l1, if_pos (by omega), if_pos (by omega), rd_at hlt]
      by_cases c1 : a[i] = 92
      · rw [if_pos c1]
      · rw [if_neg c1]
        by_cases c2 : a[i] = 34
        · rw [if_pos c2]
        · rw [if_neg c2]
          by_cases c3 : a[i] = 39
          · rw [if_pos c3]
          · rw [if_neg c3, if_pos (by omega)]
theorem com_l0 (a b c : List Int) (ha : Byt a) (hb : Byt b) (hc : Byt c) (hla : a.length ≤ 300) (hlb : b.length ≤ 300) (hlc : c.length ≤ 300) : ∀ (d i : Nat), i + d = b.length → (∀ j, (h : j < b.length) → j < i → clB b[j]) → Ev (fun k => tapestrierlaw4_TokComments.l0 k a b c (i : Int)) true := by
  intro d
  induction d with
  | zero =>
    intro i hi hok
    have hL : ∀ c ∈ b, clB c := fun c hc => by
      obtain ⟨j, hj, rfl⟩ := List.getElem_of_mem hc
      exact hok j hj (by omega)
    obtain ⟨K, f⟩ := com_l1 a b c ha hb hc hla hlb hlc hL a.length 0 (by omega) (fun j _ h => by omega)
    refine ⟨K + 1, fun k hk => ?_⟩
    obtain ⟨k, rfl⟩ : ∃ m, k = m + 1 := ⟨k - 1, by omega⟩
    show tapestrierlaw4_TokComments.l0 (k + 1) a b c (i : Int) = _
    rw [tapestrierlaw4_TokComments.l0, if_neg (by omega)]
    exact f k (by omega)
  | succ d ih =>
    intro i hi hok
    have hlt : i < b.length := by omega
    by_cases hcl : clB b[i]
    · obtain ⟨K, f⟩ := ih (i + 1) (by omega) (fun j hj hji => by
        by_cases e : j = i
        · subst e; exact hcl
        · exact hok j hj (by omega))
      refine ⟨K + 1, fun k hk => ?_⟩
      obtain ⟨k, rfl⟩ : ∃ m, k = m + 1 := ⟨k - 1, by omega⟩
      unfold clB at hcl
      show tapestrierlaw4_TokComments.l0 (k + 1) a b c (i : Int) = _
      rw [tapestrierlaw4_TokComments.l0, if_pos (by omega), if_pos (by omega), rd_at hlt, if_neg hcl.1, if_neg hcl.2, wp i (by omega)]
      exact f k (by omega)
    · refine ⟨1, fun k hk => ?_⟩
      obtain ⟨k, rfl⟩ : ∃ m, k = m + 1 := ⟨k - 1, by omega⟩
      unfold clB at hcl
      show tapestrierlaw4_TokComments.l0 (k + 1) a b c (i : Int) = _
      rw [tapestrierlaw4_TokComments.l0, if_pos (by omega), if_pos (by omega), rd_at hlt]
      by_cases c1 : b[i] = 42
      · rw [if_pos c1]
      · rw [if_neg c1, if_pos (by omega)]
theorem TokComments : tapestrierlaw4_TokComments.Pure := by
  intro a b c _ _ hwa _ _ hwb _ _ hwc
  refine Ev.rounds (g := fun k => tapestrierlaw4_TokComments.f k a b c) ?_
  have ha : Byt a := fun c hc => wf_u8 (hwa c hc)
  have hb : Byt b := fun c hc => wf_u8 (hwb c hc)
  have hc : Byt c := fun d hd => wf_u8 (hwc d hd)
  have ht : ∀ k, tapestrierlaw4_TokComments.j0 (k + 1) a b c true true = some true := fun k => by rw [tapestrierlaw4_TokComments.j0, if_pos rfl]
  by_cases hl : a.length ≤ 300 ∧ b.length ≤ 300 ∧ c.length ≤ 300
  · obtain ⟨K, f⟩ := com_l0 a b c ha hb hc hl.1 hl.2.1 hl.2.2 b.length 0 (by omega) (fun j _ h => by omega)
    refine ⟨K + 30, fun k hk => ?_⟩
    obtain ⟨k, rfl⟩ : ∃ m, k = m + 1 := ⟨k - 1, by omega⟩
    show tapestrierlaw4_TokComments.f (k + 1) a b c = _
    rw [tapestrierlaw4_TokComments.f, alive_at (k + 1) (by omega), Option.bind_some, if_pos rfl, if_neg (by omega), if_neg (by omega), tapestrierlaw4_TokComments.j0, if_neg (by simp; omega)]
    exact f k (by omega)
  · refine ⟨30, fun k hk => ?_⟩
    obtain ⟨k, rfl⟩ : ∃ m, k = m + 1 := ⟨k - 1, by omega⟩
    show tapestrierlaw4_TokComments.f (k + 1) a b c = _
    rw [tapestrierlaw4_TokComments.f, alive_at (k + 1) (by omega), Option.bind_some, if_pos rfl]
    by_cases c1 : (a.length : Int) > 300
    · rw [if_pos c1, ht]
    · rw [if_neg c1]
      by_cases c2 : (b.length : Int) > 300
      · rw [if_pos c2, ht]
      · rw [if_neg c2, decide_eq_true (by omega), ht]
end Go.Proofs.YtplkkmmojanclaaDoor.Pure
