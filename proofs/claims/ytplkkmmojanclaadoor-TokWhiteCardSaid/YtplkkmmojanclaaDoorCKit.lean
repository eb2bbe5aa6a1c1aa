/- Part of the proof; printed or typed in this session; unused declarations and remarks struck by a program (wip/prune.py). -/
import Derived.Test.YtplkkmmojanclaaDoorCMeet7
import Derived.Test.YtplkkmmojanclaaDoorCQ16
import Derived.Test.YtplkkmmojanclaaDoorCQ17
import Derived.Test.YtplkkmmojanclaaDoorCAlive
set_option linter.all false
namespace Go.Proofs.YtplkkmmojanclaaDoor.Tk
open Go.RowKit Go.Proofs.YtplkkmmojanclaaDoor.My Go.Proofs.YtplkkmmojanclaaDoor.Q Go.Proofs.YtplkkmmojanclaaDoorW.PrintWords Go.Proofs.YtplkkmmojanclaaDoorW.PrintLast Go.Proofs.YtplkkmmojanclaaDoorW.PrintMore
def byteAt (l : List Int) (i : Nat) : Nat := ((strOfNums l).get! i).toNat
theorem byteAt_lt {l : List Int} {i : Nat} (h : i < l.length) : byteAt l i = (u8 l[i]).toNat := by
  unfold byteAt
  rw [strOfNums_get l i h, List.getD_eq_getElem?_getD, List.getElem?_eq_getElem h]
  rfl
theorem byteAt_mid {a b : List Int} {x : Int} (hx : 0 ≤ x ∧ x < 128) : byteAt (a ++ x :: b) a.length < 128 := by
  rw [byteAt_lt (by rw [List.length_append, List.length_cons]; omega)]
  rw [List.getElem_append_right (Nat.le_refl _)]
  simp only [Nat.sub_self, List.getElem_cons_zero]
  have := u8_nat (c := x) (by omega)
  omega
theorem dec_eq (x : Int) (l : List Int) : dec (x :: l) = Lib.decodeN (l.length + 1) (byteAt (x :: l) 0) (byteAt (x :: l) 1) (byteAt (x :: l) 2) (byteAt (x :: l) 3) := by
  have h : (strOfNums (x :: l)).size ≠ 0 := by rw [strOfNums_size]; simp
  simp only [dec, Lib.decodeGo, h, if_false]
  rw [Lib.decode_at, strOfNums_size]
  rfl
theorem dec_ascii {x : Int} (hx : 0 ≤ x ∧ x < 128) (l : List Int) : dec (x :: l) = (x.toNat, 1) := by
  rw [dec_eq]
  have h0 : byteAt (x :: l) 0 = x.toNat := by
    rw [byteAt_lt (by simp)]
    have := u8_nat (c := x) (by omega)
    simp only [List.getElem_cons_zero]
    omega
  rw [h0]
  unfold Lib.decodeN
  rw [if_pos (by omega)]
theorem pts_ascii {x : Int} (hx : 0 ≤ x ∧ x < 128) (l : List Int) : pts (x :: l) = x :: pts l := by
  rw [pts_cons, dec_ascii hx]
  simp only [List.drop_succ_cons, List.drop_zero]
  congr 1
  omega
def prep (b : List Int) : List Int := prepF 0 (pts b)
theorem pts_plain : ∀ (l : List Int), (∀ c ∈ l, 0 ≤ c ∧ c < 128) → pts l = l
  | [], _ => rfl
  | c :: l, h => by rw [pts_ascii (h c (by simp)), pts_plain l (fun d hd => h d (by simp [hd]))]
def Pln (l : List Int) : Prop := ∀ c ∈ l, (14 ≤ c ∨ c = 9 ∨ c = 10) ∧ c < 128
theorem Pln.app {a b : List Int} (ha : Pln a) (hb : Pln b) : Pln (a ++ b) := fun c hc => (List.mem_append.1 hc).elim (ha c) (hb c)
theorem Pln.cons {c : Int} {b : List Int} (hc : (14 ≤ c ∨ c = 9 ∨ c = 10) ∧ c < 128) (hb : Pln b) : Pln (c :: b) := fun d hd => by
  rcases List.mem_cons.1 hd with rfl | hd
  · exact hc
  · exact hb d hd
theorem Pln.nil : Pln [] := fun c hc => by cases hc
theorem map_cp_plain {l : List Int} (h : ∀ c ∈ l, 0 ≤ c ∧ c < 128) : l.map cp = l := by
  conv => rhs; rw [← List.map_id l]
  exact List.map_congr_left fun c hc => cp_of c (by have := h c hc; unfold Vld; omega)
theorem prep_len (b : List Int) : (prep b).length ≤ b.length := Nat.le_trans (prepF_length _ 0) (pts_length b.length b (Nat.le_refl _))
theorem prepare_eq (b : List Int) (hb : Byt b) (hl : b.length ≤ 1000000) : text_Prepare.f b = some (prep b) := by
  unfold text_Prepare.f
  rw [if_pos ⟨fun x hx => by have := hb x hx; omega, by omega⟩]
  rfl
def toksOf (b : List Int) : List S31 := (tks ((prep b).map cp)).map tokS
theorem of_ev (b : List Int) (hb : Byt b) (hl : b.length ≤ 1000000) : Ev (fun k => tapestrierlaw4_Of.f k b) (toksOf b) := by
  have h1 := prep_len b
  obtain ⟨K, hK⟩ := tokens_ev (prep b) (by omega)
  refine ⟨K, fun k hk => ?_⟩
  have g : tok_Tokens.f k (prep b) = some (toksOf b) := hK k hk
  show tapestrierlaw4_Of.f k b = _
  rw [tapestrierlaw4_Of.f, prepare_eq b hb hl, Option.bind_some, g, Option.bind_some]
theorem name_app : ∀ (L r : List Int), (∀ c ∈ L, isP c = true ∧ c ≠ 92) → esc r 0 = false → isP (hd r 0) = false → name (L ++ r) = (L, r)
  | [], r, _, h1, h2 => by
    rw [List.nil_append, name_eqn, h1, if_neg Bool.false_ne_true, h2, if_neg Bool.false_ne_true]
  | c :: L, r, h, h1, h2 => by
    have hc := h c (by simp)
    have he : esc (c :: L ++ r) 0 = false := by
      unfold esc
      apply decide_eq_false
      rw [List.cons_append, hd_cons]
      exact fun e => hc.2 e.1
    rw [name_eqn, he, if_neg Bool.false_ne_true, List.cons_append, hd_cons, hc.1, if_pos rfl, List.drop_succ_cons, List.drop_zero, name_app L r (fun d hd => h d (by simp [hd])) h1 h2]
theorem esc_cons_ne {c : Int} {s : List Int} (h : c ≠ 92) : esc (c :: s) 0 = false := by
  unfold esc
  apply decide_eq_false
  rw [hd_cons]
  exact fun e => h e.1
theorem Pln.vld {l : List Int} (h : Pln l) : AllV l := fun c hc => by have := h c hc; unfold Vld; omega
theorem tok_word {c : Int} {r : List Int} (hw : isW c = false) (h34 : c ≠ 34) (h39 : c ≠ 39) (h35 : c ≠ 35) (h64 : c ≠ 64) (hn : num (c :: r) = false) (hm : nam (c :: r) 0 = true) : tok (c :: r) = word (c :: r) := by
  rw [tok_eqn, hd_cons, hw, if_neg Bool.false_ne_true, if_neg (by omega), decide_eq_false h35, Bool.false_and]
  unfold tok2
  rw [if_neg Bool.false_ne_true, hn, if_neg Bool.false_ne_true, hd_cons, decide_eq_false h64, Bool.false_and]
  unfold tok3
  rw [if_neg Bool.false_ne_true, hm, if_pos rfl]
theorem tok_white {c : Int} {r : List Int} (hw : isW c = true) : tok (c :: r) = ({ k := 9 }, (c :: r).dropWhile isW) := by
  rw [tok_eqn, hd_cons, hw, if_pos rfl]
theorem num_off {c : Int} {r : List Int} (h43 : c ≠ 43) (h45 : c ≠ 45) (hD : isD c = false) (h46 : c = 46 → isD (hd r 0) = false) : num (c :: r) = false := by
  unfold num numAt sgn
  rw [hd_cons, decide_eq_false (by omega), if_neg Bool.false_ne_true, hd_cons, hD, Bool.false_or, hd_succ]
  by_cases h : c = 46
  · rw [h46 h, Bool.and_false]
  · rw [decide_eq_false h, Bool.false_and]
theorem word_app {L r : List Int} (hL : ∀ c ∈ L, isP c = true ∧ c ≠ 92) (h1 : esc r 0 = false) (h2 : isP (hd r 0) = false) : word (L ++ r) = if hd r 0 = 40 then ({ k := 20, t := L }, r.drop 1) else ({ k := 1, t := L }, r) := by
  unfold word
  rw [name_app L r hL h1 h2]
theorem nam_S {c : Int} {r : List Int} (h : isS c = true) : nam (c :: r) 0 = true := by
  unfold nam
  have h45 : c ≠ 45 := fun e => by rw [e] at h; cases h
  rw [hd_cons, if_neg h45, h, Bool.true_or]
end Go.Proofs.YtplkkmmojanclaaDoor.Tk
