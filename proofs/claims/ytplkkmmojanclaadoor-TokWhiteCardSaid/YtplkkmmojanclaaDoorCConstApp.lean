/- Part of the proof; printed or typed in this session; unused declarations and remarks struck by a program (wip/prune.py). -/
import Derived.Test.YtplkkmmojanclaaDoorCConst
set_option linter.all false
namespace Go.Proofs.YtplkkmmojanclaaDoor.My
open Go.RowKit Go.Proofs.YtplkkmmojanclaaDoorW.PrintWords Go.Proofs.YtplkkmmojanclaaDoorW.PrintLast Go.Proofs.YtplkkmmojanclaaDoorW.PrintMore
theorem new_row (e : TypeId) (w : World) (xs : List Int) (cap : Nat) (z : List Value) (hc : xs.length ≤ cap) (hm : cap ≤ maxLen) (hz : z.length = cap - xs.length) :
    (Kd.int .u8).R e (w.drew.alloc (.cells (((xs.map (Value.int .u8)) ++ z).toArray) e)) w.heap.size (fun _ => True) (.slice (some ⟨w.heap.size, 0, none⟩) xs.length cap) xs ∧ Below w.heap.size w (w.drew.alloc (.cells (((xs.map (Value.int .u8)) ++ z).toArray) e)) := by
  have hown : (w.drew.alloc (.cells (((xs.map (Value.int .u8)) ++ z).toArray) e)).ownsRow w.heap.size e 1 (.slice (some ⟨w.heap.size, 0, none⟩) xs.length cap) xs.length (encs (Value.int .u8) xs) := by
    refine ⟨by simp [encs], .inr ⟨w.heap.size, cap, _, rfl, Nat.le_refl _, World.alloc_heap_new w.drew _, hc, hm, ?_, ?_⟩⟩
    · simp only [List.size_toArray, List.length_append, List.length_map]; omega
    · simp only [Nat.mul_one]
      have : (List.map (Value.int IntKind.u8) xs).length = xs.length := by simp
      rw [← this]
      exact List.take_left
  refine ⟨Kd.R_of_own hown (fun _ _ => trivial), ?_⟩
  exact (below_drew1 (Below.refl _ _)).alloc (Nat.le_refl _) _
theorem C_cells {W : World} {A : Option Addr} {l : List Int} (h : (Kd.int .u8).C W A l.length l) (hn : 0 < l.length) : ∃ ad, A = some ad ∧ ∀ j v, (l.map (Value.int .u8))[j]? = some v → W.cell? (ad.add j) = some v := by
  obtain ⟨ad, e, hc⟩ := h.2.2 hn
  refine ⟨ad, e, fun j v hj => ?_⟩
  rw [List.getElem?_map] at hj
  obtain ⟨p, hp, rfl⟩ := Option.map_eq_some_iff.1 hj
  obtain ⟨cs, hs, hr, hcell⟩ := hc j p hp
  have hr' : cs = [.int .u8 p] := hr
  subst hr'
  have := hcell 0 _ rfl
  have e1 : (ad.add (j * (Kd.int IntKind.u8).sz)).add 0 = ad.add j := by
    have : (Kd.int IntKind.u8).sz = 1 := rfl
    rw [this, Nat.mul_one]
    cases ad
    simp [Addr.add]
  first
    | rw [e1] at this; exact this
    | (have e2 : ad.add (j * (Kd.int IntKind.u8).sz + 0) = ad.add j := by
        have : (Kd.int IntKind.u8).sz = 1 := rfl
        rw [this, Nat.mul_one, Nat.add_zero]
       rw [e2] at this; exact this)
def constRow (s : ByteArray) : Array Value := ((bytesOf s).map (Value.int .u8)).toArray
theorem constRow_cells (e : TypeId) (s : ByteArray) (W : World) (fz : Nat × Nat) : ∀ j v, ((bytesOf s).map (Value.int .u8))[j]? = some v → (W.alloc (.cells (constRow s) e fz)).cell? ((⟨W.heap.size, 0, none⟩ : Addr).add j) = some v := by
  intro j v hj
  have e1 : (⟨W.heap.size, 0, none⟩ : Addr).add j = ⟨W.heap.size, j, none⟩ := add_plain _ _
  rw [e1, World.cell?, World.alloc_heap_new]
  simpa [constRow] using hj
def App1Runs (e : TypeId) (s : ByteArray) (A : Option Addr) (_c : Nat) (l : List Int) (w : World) (R : Ending → World → Prop) : Prop :=
  (Kd.int .u8).C w A l.length l ∧ 0 < l.length ∧ s.size + l.length ≤ 100000000000 ∧ ∀ v w', (Kd.int .u8).R e w' w.heap.size (fun _ => True) v (bytesOf s ++ l) → Below w.heap.size w w' → R (.returned v) w'
theorem App1Runs.mono {e : TypeId} {s : ByteArray} {A : Option Addr} {c : Nat} {l : List Int} {w : World} {R R' : Ending → World → Prop} (h : App1Runs e s A c l w R) (hr : ∀ e w', R e w' → R' e w') : App1Runs e s A c l w R' := ⟨h.1, h.2.1, h.2.2.1, fun v w' h1 h2 => hr _ _ (h.2.2.2 v w' h1 h2)⟩
theorem app1_goes {P : Program} {ops : Array Oper} {rest : List Oper} {o : Oper} {a : Act} {Q : Exit → Act → World → Prop} {W W1 : World} (hgd : o.guard = none) {N : Tmp} (hd : o.dst = some N) {t e : TypeId} {s : ByteArray} {xa xb : Operand} {A : Option Addr} {l : List Int} {c : Nat}
    (ho : o.op = .call { callee := .builtin .append, args := #[xa, xb], argTypes := #[t, t] }) (ht : P.underlying t = some (.slice e)) (hinfo : (P.info? e).map (fun i => (i.zero, i.size, i.bytes)) = some (some (.int .u8 0), 1, 1))
    {n cc : Nat} (hn : n = s.size) (hcc : cc = s.size) (hxa : a.eval xa = .slice (some ⟨W.heap.size, 0, none⟩) n cc) (hxb : a.eval xb = .slice A l.length c) {C : Array Value} {fz : Nat × Nat} (hC : C = constRow s) (hW : W1 = W.alloc (.cells C e fz))
    (h : App1Runs e s A c l W1 fun e' w' => ∃ v, e' = .returned v ∧ wpList P ops Q rest (a.put (some N) v) w') : wpList P ops Q (o :: rest) a W1 := by
  subst hn; subst hcc; subst hC; subst hW
  obtain ⟨i, hi, hzz⟩ := Option.map_eq_some_iff.1 hinfo
  simp only [Prod.mk.injEq] at hzz
  obtain ⟨hz, hsz, hby⟩ := hzz
  obtain ⟨hr, hpos, hlim, hR⟩ := h
  obtain ⟨ad, rfl, hnews⟩ := C_cells hr hpos
  have hbl : (bytesOf s).length = s.size := bytesOf_length s
  have hrun := run_append_grow (P := P) (W.alloc (.cells (constRow s) e fz)) t o.type e i (.int .u8 0) ht hi hz ⟨W.heap.size, 0, none⟩ s.size s.size ((bytesOf s).map (Value.int .u8)) (by rw [hsz, List.length_map, hbl]; omega) (constRow_cells e s W fz)
    ad l.length c (l.map (Value.int .u8)) (by rw [hsz, List.length_map]; omega) hnews (by omega) (by omega) (by rw [hby]; exact growslice_fits (by omega) (by omega))
  have hge := grownCap_ge (W.alloc (.cells (constRow s) e fz)) (s.size + l.length) s.size e
  have hle := grownCap_le_maxLen (W.alloc (.cells (constRow s) e fz)) (s.size + l.length) s.size e (by simp only [maxLen]; omega)
  generalize grownCap (W.alloc (.cells (constRow s) e fz)) (s.size + l.length) s.size e = cap at hrun hge hle
  have hlen : (bytesOf s ++ l).length = s.size + l.length := by rw [List.length_append, hbl]
  have hnew := new_row e (W.alloc (.cells (constRow s) e fz)) (bytesOf s ++ l) cap (Builtin.zeroCells (Value.int .u8 0).cells (cap - (s.size + l.length))).toList (by rw [hlen]; exact hge) hle (by
    rw [Array.length_toList, size_zeroCells, hlen]
    have : (Value.int IntKind.u8 0).cells.size = 1 := rfl
    rw [this, Nat.mul_one])
  have harr : ((bytesOf s).map (Value.int .u8)).toArray ++ (l.map (Value.int .u8)).toArray ++ Builtin.zeroCells (Value.int .u8 0).cells (cap - (s.size + l.length)) = (((bytesOf s ++ l).map (Value.int .u8)) ++ (Builtin.zeroCells (Value.int .u8 0).cells (cap - (s.size + l.length))).toList).toArray := by
    apply Array.ext'
    simp [List.append_assoc]
  rw [harr] at hrun
  rw [hlen] at hnew
  obtain ⟨v, hv, hw⟩ := hR _ _ hnew.1 hnew.2
  injection hv with hv
  subst hv
  refine wpList_plain hgd fun K hK => ?_
  unfold Oper.wp
  have hex : (execOp a.eval o).run P (W.alloc (.cells (constRow s) e fz)) = .ok (.value (.slice (some ⟨(W.alloc (.cells (constRow s) e fz)).heap.size, 0, none⟩) (s.size + l.length) cap)) ((W.alloc (.cells (constRow s) e fz)).drew.alloc (.cells (((bytesOf s ++ l).map (Value.int .u8)) ++ (Builtin.zeroCells (Value.int .u8 0).cells (cap - (s.size + l.length))).toList).toArray e)) := by
    unfold execOp
    simp only [ho, resolve, invoke, builtin, Sem.run_bind, Sem.run_pure, Result.andThen_ok, List.map_toArray, List.map_cons, List.map_nil, hxa, hxb, hrun]
  rw [hex]
  show K (a.put o.dst _) _
  rw [hd]
  exact hK _ _ hw
def constApp5.f (s : ByteArray) (l : List Int) : Option (List Int) := if 0 < l.length ∧ s.size + l.length ≤ 100000000000 then some (bytesOf s ++ l) else none
theorem constApp5.calls (a0 : ByteArray) (A1 : Option Addr) (c1 : Nat) (l1 : List Int) (r : List Int) (w : World) (hr : (Kd.int .u8).C w A1 l1.length l1) (_hc : l1.length ≤ c1) (h : constApp5.f a0 l1 = some r) :
    App1Runs 5 a0 A1 c1 l1 w fun e' w' => ∃ v0_ : Value, e' = .returned v0_ ∧ Kd.R (Kd.int .u8) 5 w' w.heap.size (fun _ => True) v0_ r ∧ Below w.heap.size w w' := by
  unfold constApp5.f at h
  split at h
  · next hl =>
    injection h with h
    subst h
    exact ⟨hr, hl.1, hl.2, fun v w' h1 h2 => ⟨v, rfl, h1, h2⟩⟩
  · cases h
end Go.Proofs.YtplkkmmojanclaaDoor.My
