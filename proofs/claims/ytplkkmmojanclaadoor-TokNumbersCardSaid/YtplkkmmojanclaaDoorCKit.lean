/- Part of the proof; printed or typed in this session; unused declarations and remarks struck by a program (wip/prune.py). -/
import Derived.Test.YtplkkmmojanclaaDoorCMeet7
import Derived.Test.YtplkkmmojanclaaDoorCQ16
import Derived.Test.YtplkkmmojanclaaDoorCQ17
import Derived.Test.YtplkkmmojanclaaDoorCAlive
set_option linter.all false
namespace Go.Proofs.YtplkkmmojanclaaDoor.Tk
open Go.RowKit Go.Proofs.YtplkkmmojanclaaDoor.My Go.Proofs.YtplkkmmojanclaaDoor.Q Go.Proofs.YtplkkmmojanclaaDoorW.PrintWords Go.Proofs.YtplkkmmojanclaaDoorW.PrintLast Go.Proofs.YtplkkmmojanclaaDoorW.PrintMore
theorem str_append (a b : List Int) : strOfNums a ++ strOfNums b = strOfNums (a ++ b) := by
  apply str_ext
  rw [ByteArray.data_append, Array.toList_append, sd, sd, sd, List.map_append]
theorem conv_ev (b : List Int) (hb : Byt b) (hl : b.length ≤ 1000000) : bytesConv5.f (strOfNums b) = some b := bytesConv_str b hb (by omega)
def byteAt (l : List Int) (i : Nat) : Nat := ((strOfNums l).get! i).toNat
theorem byteAt_lt {l : List Int} {i : Nat} (h : i < l.length) : byteAt l i = (u8 l[i]).toNat := by
  unfold byteAt
  rw [strOfNums_get l i h, List.getD_eq_getElem?_getD, List.getElem?_eq_getElem h]
  rfl
theorem byteAt_mid {a b : List Int} {x : Int} (hx : 0 ≤ x ∧ x < 128) : byteAt (a ++ x :: b) a.length < 128 := by
  rw [byteAt_lt (by rw [List.length_append, List.length_cons]; omega)]
  rw [List.getElem_append_right (Nat.le_refl _)]
  simp only [Nat.sub_self, List.getElem_cons_zero]
  have := u8_nat (c := x) (by omega)
  omega
theorem dec_eq (x : Int) (l : List Int) : dec (x :: l) = Lib.decodeN (l.length + 1) (byteAt (x :: l) 0) (byteAt (x :: l) 1) (byteAt (x :: l) 2) (byteAt (x :: l) 3) := by
  have h : (strOfNums (x :: l)).size ≠ 0 := by rw [strOfNums_size]; simp
  simp only [dec, Lib.decodeGo, h, if_false]
  rw [Lib.decode_at, strOfNums_size]
  rfl
theorem dec_ascii {x : Int} (hx : 0 ≤ x ∧ x < 128) (l : List Int) : dec (x :: l) = (x.toNat, 1) := by
  rw [dec_eq]
  have h0 : byteAt (x :: l) 0 = x.toNat := by
    rw [byteAt_lt (by simp)]
    have := u8_nat (c := x) (by omega)
    simp only [List.getElem_cons_zero]
    omega
  rw [h0]
  unfold Lib.decodeN
  rw [if_pos (by omega)]
theorem pts_ascii {x : Int} (hx : 0 ≤ x ∧ x < 128) (l : List Int) : pts (x :: l) = x :: pts l := by
  rw [pts_cons, dec_ascii hx]
  simp only [List.drop_succ_cons, List.drop_zero]
  congr 1
  omega
def prep (b : List Int) : List Int := prepF 0 (pts b)
theorem prepStep_plain {last c : Int} (h : 14 ≤ c ∨ c = 9 ∨ c = 10) (hl : last ≠ 13) : prepStep last c = [c] := by
  unfold prepStep
  rw [if_neg (fun e => hl e.2), if_neg (by omega), if_neg (by omega)]
theorem prepF_plain : ∀ (l : List Int) (last : Int), last ≠ 13 → (∀ c ∈ l, 14 ≤ c ∨ c = 9 ∨ c = 10) → prepF last l = l
  | [], _, _, _ => rfl
  | c :: l, last, hl, h => by
    have hc := h c (by simp)
    rw [prepF, prepStep_plain hc hl, prepF_plain l c (by omega) (fun d hd => h d (by simp [hd]))]
    rfl
theorem pts_plain : ∀ (l : List Int), (∀ c ∈ l, 0 ≤ c ∧ c < 128) → pts l = l
  | [], _ => rfl
  | c :: l, h => by rw [pts_ascii (h c (by simp)), pts_plain l (fun d hd => h d (by simp [hd]))]
def Pln (l : List Int) : Prop := ∀ c ∈ l, (14 ≤ c ∨ c = 9 ∨ c = 10) ∧ c < 128
theorem Pln.app {a b : List Int} (ha : Pln a) (hb : Pln b) : Pln (a ++ b) := fun c hc => (List.mem_append.1 hc).elim (ha c) (hb c)
theorem Pln.cons {c : Int} {b : List Int} (hc : (14 ≤ c ∨ c = 9 ∨ c = 10) ∧ c < 128) (hb : Pln b) : Pln (c :: b) := fun d hd => by
  rcases List.mem_cons.1 hd with rfl | hd
  · exact hc
  · exact hb d hd
theorem Pln.nil : Pln [] := fun c hc => by cases hc
theorem prep_plain {l : List Int} (h : Pln l) : prep l = l := by
  unfold prep
  rw [pts_plain l (fun c hc => by have := h c hc; omega), prepF_plain l 0 (by omega) (fun c hc => (h c hc).1)]
theorem map_cp_plain {l : List Int} (h : ∀ c ∈ l, 0 ≤ c ∧ c < 128) : l.map cp = l := by
  conv => rhs; rw [← List.map_id l]
  exact List.map_congr_left fun c hc => cp_of c (by have := h c hc; unfold Vld; omega)
theorem prep_len (b : List Int) : (prep b).length ≤ b.length := Nat.le_trans (prepF_length _ 0) (pts_length b.length b (Nat.le_refl _))
theorem prepare_eq (b : List Int) (hb : Byt b) (hl : b.length ≤ 1000000) : text_Prepare.f b = some (prep b) := by
  unfold text_Prepare.f
  rw [if_pos ⟨fun x hx => by have := hb x hx; omega, by omega⟩]
  rfl
def toksOf (b : List Int) : List S31 := (tks ((prep b).map cp)).map tokS
theorem of_ev (b : List Int) (hb : Byt b) (hl : b.length ≤ 1000000) : Ev (fun k => tapestrierlaw4_Of.f k b) (toksOf b) := by
  have h1 := prep_len b
  obtain ⟨K, hK⟩ := tokens_ev (prep b) (by omega)
  refine ⟨K, fun k hk => ?_⟩
  have g : tok_Tokens.f k (prep b) = some (toksOf b) := hK k hk
  show tapestrierlaw4_Of.f k b = _
  rw [tapestrierlaw4_Of.f, prepare_eq b hb hl, Option.bind_some, g, Option.bind_some]
theorem toksOf_len (b : List Int) : (toksOf b).length ≤ b.length := by
  unfold toksOf
  rw [List.length_map]
  have h1 := tks_len ((prep b).map cp) (At.zero (prep b)).vld
  rw [List.length_map] at h1
  exact Nat.le_trans h1 (prep_len b)
theorem same_loop (t : List S31) (hl : t.length ≤ 1000000) : ∀ (d i : Nat), i + d = t.length → ∀ k, d + 1 ≤ k → tapestrierref1_SameTokens.l0 k t t (i : Int) = some true := by
  intro d
  induction d with
  | zero =>
    intro i hi k hk
    obtain ⟨k, rfl⟩ : ∃ m, k = m + 1 := ⟨k - 1, by omega⟩
    rw [tapestrierref1_SameTokens.l0, if_neg (by omega)]
  | succ d ih =>
    intro i hi k hk
    obtain ⟨k, rfl⟩ : ∃ m, k = m + 1 := ⟨k - 1, by omega⟩
    rw [tapestrierref1_SameTokens.l0, if_pos (by omega), if_pos (by omega), if_pos (by omega), if_neg (by simp), wp i (by omega)]
    exact ih (i + 1) (by omega) k (by omega)
theorem same_ev (t : List S31) (hl : t.length ≤ 1000000) (k : Nat) (hk : t.length + 1 ≤ k) : tapestrierref1_SameTokens.f k t t = some true := by
  unfold tapestrierref1_SameTokens.f
  rw [if_pos rfl]
  exact same_loop t hl t.length 0 (by omega) k hk
theorem Pln.byt {l : List Int} (h : Pln l) : Byt l := fun c hc => by have := h c hc; omega
theorem Pln.vld {l : List Int} (h : Pln l) : AllV l := fun c hc => by have := h c hc; unfold Vld; omega
theorem toks_plain {l : List Int} (h : Pln l) : toksOf l = (tks l).map tokS := by
  unfold toksOf
  rw [prep_plain h, map_cp_plain (fun c hc => by have := h c hc; omega)]
theorem tok_num {c : Int} {r : List Int} (hw : isW c = false) (h34 : c ≠ 34) (h39 : c ≠ 39) (h35 : c ≠ 35) (hn : num (c :: r) = true) : tok (c :: r) = amount (c :: r) := by
  rw [tok_eqn, hd_cons, hw, if_neg Bool.false_ne_true, if_neg (by omega), decide_eq_false h35, Bool.false_and]
  unfold tok2
  rw [if_neg Bool.false_ne_true, hn, if_pos rfl]
theorem num_sgn {c : Int} {r : List Int} (hs : c = 43 ∨ c = 45) : num (c :: r) = numAt r 0 := by
  unfold num sgn
  rw [hd_cons, decide_eq_true hs, if_pos rfl]
  unfold numAt
  rw [hd_succ, hd_succ]
end Go.Proofs.YtplkkmmojanclaaDoor.Tk
