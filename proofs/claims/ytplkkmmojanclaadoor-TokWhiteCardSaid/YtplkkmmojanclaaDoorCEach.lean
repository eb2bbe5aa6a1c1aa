/- Part of the proof; printed or typed in this session; unused declarations and remarks struck by a program (wip/prune.py). -/
import Derived.Lib.Hide
import Derived.Outline
import Derived.Test.YtplkkmmojanclaaDoorCPrep
set_option linter.all false
namespace Go.Proofs.YtplkkmmojanclaaDoor.My
open Go.RowKit Go.Shelf Go.Proofs.YtplkkmmojanclaaDoorW.PrintWords
attribute [local go_sem] Oper.semAt_some
theorem decN_le (n b0 b1 b2 b3 : Nat) (h : 1 ≤ n) : (Lib.decodeN n b0 b1 b2 b3).2 ≤ n := by
  unfold Lib.decodeN
  repeat' split
  all_goals (dsimp only; omega)
theorem decN_max (n b0 b1 b2 b3 : Nat) : (Lib.decodeN n b0 b1 b2 b3).1 ≤ 1114111 := by
  unfold Lib.decodeN
  repeat' split
  all_goals (dsimp only; omega)
theorem dec_le (l : List Int) (h : 0 < l.length) : (dec l).2 ≤ l.length := by
  have hs : (strOfNums l).size ≠ 0 := by rw [strOfNums_size]; omega
  simp only [dec, Lib.decodeGo, hs, if_false]
  rw [Lib.decode_at]
  refine Nat.le_trans (decN_le _ _ _ _ _ ?_) ?_ <;> rw [strOfNums_size] <;> omega
theorem dec_max (l : List Int) : (dec l).1 ≤ 1114111 := by
  by_cases hs : (strOfNums l).size = 0
  · simp [dec, Lib.decodeGo, hs]
  · simp only [dec, Lib.decodeGo, hs, if_false]
    rw [Lib.decode_at]
    exact decN_max _ _ _ _ _
theorem pts_pos (l : List Int) (h : 0 < l.length) : pts l = ((dec l).1 : Int) :: pts (l.drop (dec l).2) := by
  cases l with
  | nil => simp at h
  | cons x l => exact pts_cons x l
theorem dec_pos (l : List Int) (h : 0 < l.length) : 1 ≤ (dec l).2 := by
  cases l with
  | nil => simp at h
  | cons x l => exact dec_width x l
theorem decode_calls (w : World) (A : Option Addr) (c : Nat) (r : List Int) (hT : TabsIn w) (hC : (Kd.int .u8).C w A r.length r) (h0 : 0 < r.length) (hb : ∀ x ∈ r, 0 ≤ x ∧ x < 256) :
    Calls Tryd.prog 73 #[.slice A r.length c] w fun e w' => e = .returned (.tuple #[.int .i32 ((dec r).1 : Int), .int .i64 ((dec r).2 : Int)]) ∧ Below w.heap.size w w' := by
  obtain ⟨ad, rfl, hc⟩ := hC.2.2 h0
  have hcell : ∀ j, (hj : j < r.length) → w.cell? (ad.add j) = some (.int .u8 r[j]) := fun j hj => by
    obtain ⟨cs, hl, hr, hcell⟩ := hc j r[j] (List.getElem?_eq_getElem hj)
    have hr' : cs = [.int .u8 r[j]] := hr
    subst hr'
    have := hcell 0 _ rfl
    rwa [show j * (Kd.int IntKind.u8).sz + 0 = j by show j * 1 + 0 = j; omega] at this
  have hspot : ad.spot = none := by
    have h := hcell 0 h0
    rw [show ad.add 0 = ad from rfl] at h
    cases hs : ad.spot with
    | none => rfl
    | some q =>
      unfold World.cell? at h
      rw [hs] at h
      split at h <;> simp at h
  obtain ⟨b, off, sp⟩ := ad
  subst hspot
  have h := Any7.utf8_DecodeRune Tryd.lays7n32 (strOfNums r) b off c w hT (fun j hj => by
    rw [strOfNums_size] at hj
    have h1 := hcell j hj
    have e1 : (⟨b, off, none⟩ : Addr).add j = ⟨b, off + j, none⟩ := by
      unfold Addr.add
      split
      · next e => subst e; rfl
      · rfl
    rw [e1] at h1
    rw [h1, strOfNums_get _ _ hj]
    have hx := hb r[j] (List.getElem_mem hj)
    have e2 : r.getD j 0 = r[j] := by simp [List.getD_eq_getElem?_getD, List.getElem?_eq_getElem hj]
    rw [e2]
    congr 2
    simp only [UInt8.toNat_ofNat']
    omega)
  rw [strOfNums_size] at h
  exact h
set_option maxRecDepth 100000 in
set_option maxHeartbeats 2000000 in
theorem each1_in (n : Nat) (l Bb n0 : Nat) (L : List Int) (hL : ∀ x ∈ L, 0 ≤ x ∧ x < 256) (J : List Int → World → Prop)
    (hJ : ∀ s W W', J s W → Turn Bb W W' → J s W') (hg2 : 2 < n0) (hg3 : 3 < n0) (hBb : n0 ≤ Bb)
    (hY : ∀ pre x W, J pre W → (pre ++ [x]) <+: pts L → YieldAt Fence.wide n Tryd.prog l #[.int .i64 x] W fun e W' => e = .returned (.bool true) ∧ J (pre ++ [x]) W' ∧ KeepsAt (fun k => k < n0 ∨ k = Bb) W W')
    (W : World) (hT : TabsIn W) (hnW : n0 ≤ W.heap.size) (hR : RemB n0 Bb L W) (h0 : J [] W) :
    CallsIn Fence.wide (n + 1) Tryd.prog 72 #[.func (.yield l) #[] #[], .pointer (some ⟨Bb, 0, none⟩)] W fun e W' => (∃ v, e = .returned v) ∧ ∃ xs, xs = pts L ∧ J xs W' := by
  refine callsIn_of_wp Tryd.func72 rfl trivial ?_ rfl
  simp only [Tryd.ntmps72, List.size_toArray, List.length_cons, List.length_nil, Nat.reduceAdd, Nat.reduceSub, Array.replicate_succ, Array.replicate_zero, List.push_toArray, List.append_toArray, List.nil_append, List.cons_append]
  gi_wp2
  gi_loopw [4] (fun _ wr => ∃ pre r, J pre wr ∧ RemB n0 Bb r wr ∧ TabsIn wr ∧ n0 ≤ wr.heap.size ∧ pts L = pre ++ pts r ∧ (∀ x ∈ r, 0 ≤ x ∧ x < 256)) (fun _ wr => lenAt Bb wr)
  case atStart => exact ⟨[], L, h0, hR, hT, hnW, by simp, hL⟩
  case round =>
    obtain ⟨pre, r, hj, hr, hT1, hn, hp, hb⟩ := hrel
    obtain ⟨A, c, hcell, hfr, hlc, hC, hA⟩ := hr.cell
    have HR := Lib.hid hr
    have HT := Lib.hid hT1
    have HP := Lib.hid hp
    have HC := Lib.hid hC
    have HA := Lib.hid hA
    have HB := Lib.hid hb
    have HJ := Lib.hid hj
    clear hr hT1 hp hC hA hb hj hT hR h0 hL
    by_cases hq : 0 < r.length
    · have HD := Lib.hid (decode_calls wr A c r HT.out HC.out hq HB.out)
      have HPC := Lib.hid (pts_pos r hq)
      have h1 := dec_pos r hq
      have h2 := dec_le r hq
      have h3 := dec_max r
      gi_wp2_with (first | (refine ⟨trivial, ?_⟩; gi_at_call 73; refine (callsIn_wide.2 HD.out).mono ?_; rintro e w1 ⟨rfl, hb1⟩))
      have HJ1 := Lib.hid (hJ _ _ _ HJ.out (Turn.of_below hb1))
      obtain ⟨fn, tmps, assign, body, hy, hRd⟩ := hY pre ((dec r).1 : Int) w1 HJ1.out ⟨pts (r.drop (dec r).2), by rw [HP.out, HPC.out]; simp⟩
      rw [show Sem.run Tryd.prog (Instr.yield l #[Value.int IntKind.i64 ↑(dec r).1]) w1 = Result.ok (Next.round l fn tmps assign body) w1 from hy]
      refine ⟨fun _ => by omega, hRd.mono ?_⟩
      rintro e W2 ⟨rfl, hJ2, hk2⟩
      have HJ2 := Lib.hid hJ2
      have hT1 := HT.out.below hb1
      have hn1 : n0 ≤ w1.heap.size := Nat.le_trans hn hb1.size
      have HT2 := Lib.hid (hT1.keep (hk2.same _ (.inl hg2) (Nat.lt_of_lt_of_le hg2 hn1)) (hk2.same _ (.inl hg3) (Nat.lt_of_lt_of_le hg3 hn1)))
      have hr2 := (HR.out.below hn hb1).keep hn1 hk2
      have hn2 : n0 ≤ W2.heap.size := Nat.le_trans hn1 hk2.size
      obtain ⟨A2, c2, hcell2, hfr2, hlc2, hC2, hA2⟩ := hr2.cell
      have HR2 := Lib.hid hr2
      clear hy hRd hJ2 hr2 hcell hfr
      obtain ⟨i0, hi0, _, hsz, _⟩ := info_parts (P := Tryd.prog) (e := 5) (z := .int .u8 0) (size := 1) (bytes := 1) (by kernel_rfl)
      have hcut := cut_from (P := Tryd.prog) 25 5 .i64 (by kernel_rfl) hi0 1 hsz A2 r.length c2 ((dec r).2 : Int) (by omega) (by exact_mod_cast h2)
      gi_wp2
      obtain ⟨A', hA'⟩ : ∃ A', A' = (if c2 = (dec r).2 then A2 else A2.map fun x => x.add (dec r).2) := ⟨_, rfl⟩
      have hC3 : (Kd.int .u8).C W2 A' (r.drop (dec r).2).length (r.drop (dec r).2) := by
        have h := Kd.C_drop hC2 h2 hlc2
        rw [show (dec r).2 * (Kd.int IntKind.u8).sz = (dec r).2 from Nat.mul_one _] at h
        rw [hA']; exact h
      have hA3 : ∀ ad, A' = some ad → 0 < (r.drop (dec r).2).length → ad.block < n0 := by
        intro ad e hlt
        rw [List.length_drop] at hlt
        rw [hA'] at e
        split at e
        · exact hA2 ad e hq
        · cases A2 with
          | none => simp at e
          | some a0 =>
            simp only [Option.map_some, Option.some.injEq] at e
            rw [← e, add_block]
            exact hA2 a0 rfl hq
      have hlen : r.length - (dec r).2 = (r.drop (dec r).2).length := List.length_drop.symm
      rw [hlen, ← hA']
      obtain ⟨W3, hW3⟩ : ∃ W3, W2.setCell ⟨Bb, 0, none⟩ (.slice A' (r.drop (dec r).2).length (c2 - (dec r).2)) = W3 := ⟨_, rfl⟩
      rw [hW3]
      have ht3 : Turn Bb W2 W3 := hW3 ▸ Turn.setCell W2 0 _
      obtain ⟨_, _, hb2, _⟩ := HR2.out
      have hb3 : W3.heap[Bb]? = some (.cells #[.slice A' (r.drop (dec r).2).length (c2 - (dec r).2)] 25 (0, 0)) := by rw [← hW3]; simpa using blk_set hb2 0 _
      have hk3 : ∀ k, k < n0 → W3.heap[k]? = W2.heap[k]? := fun k hk => ht3.keep.2 k (Nat.lt_of_lt_of_le hk hn2) (by omega) (by simp)
      have hr3 : RemB n0 Bb (r.drop (dec r).2) W3 := ⟨A', c2 - (dec r).2, hb3, by rw [← hlen]; omega, C_same hC3 (fun ad e hr => hk3 _ (hA3 ad e hr)), hA3⟩
      refine ⟨⟨pre ++ [((dec r).1 : Int)], r.drop (dec r).2, hJ _ _ _ HJ2.out ht3, hr3, HT2.out.keep (hk3 _ hg2) (hk3 _ hg3), Nat.le_trans hn2 ht3.keep.1, ?_, fun x hx => HB.out x (List.mem_of_mem_drop hx)⟩, ?_⟩
      · rw [HP.out, HPC.out]; simp
      · rw [hr3.len, HR.out.len, ← hlen]; omega
    · gi_wp2
      have hr0 : r = [] := List.eq_nil_of_length_eq_zero (by omega)
      go_end0
      refine ⟨⟨_, rfl⟩, _, rfl, ?_⟩
      have e : pts L = pre := by rw [HP.out, hr0]; simp [pts_nil]
      rw [e]
      exact HJ.out
end Go.Proofs.YtplkkmmojanclaaDoor.My
