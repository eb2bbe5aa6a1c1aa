/- Part of the proof; printed or typed in this session; unused declarations and remarks struck by a program (wip/prune.py). -/
import Derived.Test.YtplkkmmojanclaaDoorCConst
set_option linter.all false
namespace Go.Proofs.YtplkkmmojanclaaDoor.My
open Go.RowKit Go.Proofs.YtplkkmmojanclaaDoorW.PrintWords Go.Proofs.YtplkkmmojanclaaDoorW.PrintLast Go.Proofs.YtplkkmmojanclaaDoorW.PrintMore
theorem new_row (e : TypeId) (w : World) (xs : List Int) (cap : Nat) (z : List Value) (hc : xs.length ≤ cap) (hm : cap ≤ maxLen) (hz : z.length = cap - xs.length) :
    (Kd.int .u8).R e (w.drew.alloc (.cells (((xs.map (Value.int .u8)) ++ z).toArray) e)) w.heap.size (fun _ => True) (.slice (some ⟨w.heap.size, 0, none⟩) xs.length cap) xs ∧ Below w.heap.size w (w.drew.alloc (.cells (((xs.map (Value.int .u8)) ++ z).toArray) e)) := by
  have hown : (w.drew.alloc (.cells (((xs.map (Value.int .u8)) ++ z).toArray) e)).ownsRow w.heap.size e 1 (.slice (some ⟨w.heap.size, 0, none⟩) xs.length cap) xs.length (encs (Value.int .u8) xs) := by
    refine ⟨by simp [encs], .inr ⟨w.heap.size, cap, _, rfl, Nat.le_refl _, World.alloc_heap_new w.drew _, hc, hm, ?_, ?_⟩⟩
    · simp only [List.size_toArray, List.length_append, List.length_map]; omega
    · simp only [Nat.mul_one]
      have : (List.map (Value.int IntKind.u8) xs).length = xs.length := by simp
      rw [← this]
      exact List.take_left
  refine ⟨Kd.R_of_own hown (fun _ _ => trivial), ?_⟩
  exact (below_drew1 (Below.refl _ _)).alloc (Nat.le_refl _) _
theorem C_cells {W : World} {A : Option Addr} {l : List Int} (h : (Kd.int .u8).C W A l.length l) (hn : 0 < l.length) : ∃ ad, A = some ad ∧ ∀ j v, (l.map (Value.int .u8))[j]? = some v → W.cell? (ad.add j) = some v := by
  obtain ⟨ad, e, hc⟩ := h.2.2 hn
  refine ⟨ad, e, fun j v hj => ?_⟩
  rw [List.getElem?_map] at hj
  obtain ⟨p, hp, rfl⟩ := Option.map_eq_some_iff.1 hj
  obtain ⟨cs, hs, hr, hcell⟩ := hc j p hp
  have hr' : cs = [.int .u8 p] := hr
  subst hr'
  have := hcell 0 _ rfl
  have e1 : (ad.add (j * (Kd.int IntKind.u8).sz)).add 0 = ad.add j := by
    have : (Kd.int IntKind.u8).sz = 1 := rfl
    rw [this, Nat.mul_one]
    cases ad
    simp [Addr.add]
  first
    | rw [e1] at this; exact this
    | (have e2 : ad.add (j * (Kd.int IntKind.u8).sz + 0) = ad.add j := by
        have : (Kd.int IntKind.u8).sz = 1 := rfl
        rw [this, Nat.mul_one, Nat.add_zero]
       rw [e2] at this; exact this)
def constRow (s : ByteArray) : Array Value := ((bytesOf s).map (Value.int .u8)).toArray
theorem constRow_cells (e : TypeId) (s : ByteArray) (W : World) (fz : Nat × Nat) : ∀ j v, ((bytesOf s).map (Value.int .u8))[j]? = some v → (W.alloc (.cells (constRow s) e fz)).cell? ((⟨W.heap.size, 0, none⟩ : Addr).add j) = some v := by
  intro j v hj
  have e1 : (⟨W.heap.size, 0, none⟩ : Addr).add j = ⟨W.heap.size, j, none⟩ := add_plain _ _
  rw [e1, World.cell?, World.alloc_heap_new]
  simpa [constRow] using hj
def App1Runs (e : TypeId) (s : ByteArray) (A : Option Addr) (_c : Nat) (l : List Int) (w : World) (R : Ending → World → Prop) : Prop :=
  (Kd.int .u8).C w A l.length l ∧ 0 < l.length ∧ s.size + l.length ≤ 100000000000 ∧ ∀ v w', (Kd.int .u8).R e w' w.heap.size (fun _ => True) v (bytesOf s ++ l) → Below w.heap.size w w' → R (.returned v) w'
theorem app1_goes {P : Program} {ops : Array Oper} {rest : List Oper} {o : Oper} {a : Act} {Q : Exit → Act → World → Prop} {W W1 : World} (hgd : o.guard = none) {N : Tmp} (hd : o.dst = some N) {t e : TypeId} {s : ByteArray} {xa xb : Operand} {A : Option Addr} {l : List Int} {c : Nat}
    (ho : o.op = .call { callee := .builtin .append, args := #[xa, xb], argTypes := #[t, t] }) (ht : P.underlying t = some (.slice e)) (hinfo : (P.info? e).map (fun i => (i.zero, i.size, i.bytes)) = some (some (.int .u8 0), 1, 1))
    {n cc : Nat} (hn : n = s.size) (hcc : cc = s.size) (hxa : a.eval xa = .slice (some ⟨W.heap.size, 0, none⟩) n cc) (hxb : a.eval xb = .slice A l.length c) {C : Array Value} {fz : Nat × Nat} (hC : C = constRow s) (hW : W1 = W.alloc (.cells C e fz))
    (h : App1Runs e s A c l W1 fun e' w' => ∃ v, e' = .returned v ∧ wpList P ops Q rest (a.put (some N) v) w') : wpList P ops Q (o :: rest) a W1 := by
  subst hn; subst hcc; subst hC; subst hW
  obtain ⟨i, hi, hzz⟩ := Option.map_eq_some_iff.1 hinfo
  simp only [Prod.mk.injEq] at hzz
  obtain ⟨hz, hsz, hby⟩ := hzz
  obtain ⟨hr, hpos, hlim, hR⟩ := h
  obtain ⟨ad, rfl, hnews⟩ := C_cells hr hpos
  have hbl : (bytesOf s).length = s.size := bytesOf_length s
  have hrun := run_append_grow (P := P) (W.alloc (.cells (constRow s) e fz)) t o.type e i (.int .u8 0) ht hi hz ⟨W.heap.size, 0, none⟩ s.size s.size ((bytesOf s).map (Value.int .u8)) (by rw [hsz, List.length_map, hbl]; omega) (constRow_cells e s W fz)
    ad l.length c (l.map (Value.int .u8)) (by rw [hsz, List.length_map]; omega) hnews (by omega) (by omega) (by rw [hby]; exact growslice_fits (by omega) (by omega))
  have hge := grownCap_ge (W.alloc (.cells (constRow s) e fz)) (s.size + l.length) s.size e
  have hle := grownCap_le_maxLen (W.alloc (.cells (constRow s) e fz)) (s.size + l.length) s.size e (by simp only [maxLen]; omega)
  generalize grownCap (W.alloc (.cells (constRow s) e fz)) (s.size + l.length) s.size e = cap at hrun hge hle
  have hlen : (bytesOf s ++ l).length = s.size + l.length := by rw [List.length_append, hbl]
  have hnew := new_row e (W.alloc (.cells (constRow s) e fz)) (bytesOf s ++ l) cap (Builtin.zeroCells (Value.int .u8 0).cells (cap - (s.size + l.length))).toList (by rw [hlen]; exact hge) hle (by
    rw [Array.length_toList, size_zeroCells, hlen]
    have : (Value.int IntKind.u8 0).cells.size = 1 := rfl
    rw [this, Nat.mul_one])
  have harr : ((bytesOf s).map (Value.int .u8)).toArray ++ (l.map (Value.int .u8)).toArray ++ Builtin.zeroCells (Value.int .u8 0).cells (cap - (s.size + l.length)) = (((bytesOf s ++ l).map (Value.int .u8)) ++ (Builtin.zeroCells (Value.int .u8 0).cells (cap - (s.size + l.length))).toList).toArray := by
    apply Array.ext'
    simp [List.append_assoc]
  rw [harr] at hrun
  rw [hlen] at hnew
  obtain ⟨v, hv, hw⟩ := hR _ _ hnew.1 hnew.2
  injection hv with hv
  subst hv
  refine wpList_plain hgd fun K hK => ?_
  unfold Oper.wp
  have hex : (execOp a.eval o).run P (W.alloc (.cells (constRow s) e fz)) = .ok (.value (.slice (some ⟨(W.alloc (.cells (constRow s) e fz)).heap.size, 0, none⟩) (s.size + l.length) cap)) ((W.alloc (.cells (constRow s) e fz)).drew.alloc (.cells (((bytesOf s ++ l).map (Value.int .u8)) ++ (Builtin.zeroCells (Value.int .u8 0).cells (cap - (s.size + l.length))).toList).toArray e)) := by
    unfold execOp
    simp only [ho, resolve, invoke, builtin, Sem.run_bind, Sem.run_pure, Result.andThen_ok, List.map_toArray, List.map_cons, List.map_nil, hxa, hxb, hrun]
  rw [hex]
  show K (a.put o.dst _) _
  rw [hd]
  exact hK _ _ hw
def App2Runs (e : TypeId) (s : ByteArray) (A : Option Addr) (_c : Nat) (l : List Int) (s2 : ByteArray) (w : World) (R : Ending → World → Prop) : Prop :=
  (Kd.int .u8).C w A l.length l ∧ 0 < s2.size ∧ s.size + l.length + s2.size ≤ 100000000000 ∧ ∀ v w', (Kd.int .u8).R e w' w.heap.size (fun _ => True) v (bytesOf s ++ l ++ bytesOf s2) → Below w.heap.size w w' → R (.returned v) w'
theorem App2Runs.mono {e : TypeId} {s : ByteArray} {A : Option Addr} {c : Nat} {l : List Int} {s2 : ByteArray} {w : World} {R R' : Ending → World → Prop} (h : App2Runs e s A c l s2 w R) (hr : ∀ e w', R e w' → R' e w') : App2Runs e s A c l s2 w R' := ⟨h.1, h.2.1, h.2.2.1, fun v w' h1 h2 => hr _ _ (h.2.2.2 v w' h1 h2)⟩
def constAppp5.f (s : ByteArray) (l : List Int) (s2 : ByteArray) : Option (List Int) := if 0 < s2.size ∧ s.size + l.length + s2.size ≤ 100000000000 then some (bytesOf s ++ l ++ bytesOf s2) else none
theorem constAppp5.calls (a0 : ByteArray) (A1 : Option Addr) (c1 : Nat) (l1 : List Int) (a2 : ByteArray) (r : List Int) (w : World) (hr : (Kd.int .u8).C w A1 l1.length l1) (_hc : l1.length ≤ c1) (h : constAppp5.f a0 l1 a2 = some r) :
    App2Runs 5 a0 A1 c1 l1 a2 w fun e' w' => ∃ v0_ : Value, e' = .returned v0_ ∧ Kd.R (Kd.int .u8) 5 w' w.heap.size (fun _ => True) v0_ r ∧ Below w.heap.size w w' := by
  unfold constAppp5.f at h
  split at h
  · next hl =>
    injection h with h
    subst h
    exact ⟨hr, hl.1, hl.2, fun v w' h1 h2 => ⟨v, rfl, h1, h2⟩⟩
  · cases h
theorem run_plain {P : Program} {ops : Array Oper} {rest : List Oper} {o : Oper} {a : Act} {Q : Exit → Act → World → Prop} {W W' : World} (hgd : o.guard = none) {N : Tmp} (hd : o.dst = some N) {t u : TypeId} {xa xb : Operand} {va vb v : Value}
    (ho : o.op = .call { callee := .builtin .append, args := #[xa, xb], argTypes := #[t, u] }) (hxa : a.eval xa = va) (hxb : a.eval xb = vb)
    (hrun : (Builtin.append_ #[t, u] o.type #[va, vb]).run P W = .ok v W') (h : wpList P ops Q rest (a.put (some N) v) W') : wpList P ops Q (o :: rest) a W := by
  refine wpList_plain hgd fun K hK => ?_
  unfold Oper.wp
  have hex : (execOp a.eval o).run P W = .ok (.value v) W' := by
    unfold execOp
    simp only [ho, resolve, invoke, builtin, Sem.run_bind, Sem.run_pure, Result.andThen_ok, List.map_toArray, List.map_cons, List.map_nil, hxa, hxb, hrun]
  rw [hex]
  show K (a.put o.dst _) _
  rw [hd]
  exact hK _ _ h
theorem app2_goes {P : Program} {ops : Array Oper} {rest : List Oper} {o o2 : Oper} {a : Act} {Q : Exit → Act → World → Prop} {W W1 : World} (hgd : o.guard = none) {N N2 : Tmp} (hd : o.dst = some N) (hgd2 : o2.guard = none) (hd2 : o2.dst = some N2) {t e u : TypeId} {s s2 : ByteArray} {xa xb xc xd : Operand} {A : Option Addr} {l : List Int} {c : Nat}
    (ho : o.op = .call { callee := .builtin .append, args := #[xa, xb], argTypes := #[t, t] }) (ho2 : o2.op = .call { callee := .builtin .append, args := #[xc, xd], argTypes := #[t, u] }) (ht : P.underlying t = some (.slice e)) (hu : P.underlying u = some .string) (hinfo : (P.info? e).map (fun i => (i.zero, i.size, i.bytes)) = some (some (.int .u8 0), 1, 1))
    {n cc : Nat} (hn : n = s.size) (hcc : cc = s.size) (hxa : a.eval xa = .slice (some ⟨W.heap.size, 0, none⟩) n cc) (hxb : a.eval xb = .slice A l.length c) (hxc : ∀ v, (a.put (some N) v).eval xc = v) (hxd : ∀ v, (a.put (some N) v).eval xd = .string s2) {C : Array Value} {fz : Nat × Nat} (hC : C = constRow s) (hW : W1 = W.alloc (.cells C e fz))
    (h : ∀ v1, App2Runs e s A c l s2 W1 fun e' w' => ∃ v, e' = .returned v ∧ wpList P ops Q rest ((a.put (some N) v1).put (some N2) v) w') : wpList P ops Q (o :: o2 :: rest) a W1 := by
  subst hn; subst hcc; subst hC; subst hW
  obtain ⟨i, hi, hzz⟩ := Option.map_eq_some_iff.1 hinfo
  simp only [Prod.mk.injEq] at hzz
  obtain ⟨hz, hsz, hby⟩ := hzz
  have hbl : (bytesOf s).length = s.size := bytesOf_length s
  have hbl2 : (bytesOf s2).length = s2.size := bytesOf_length s2
  have hsc : encs (Value.int .u8) (bytesOf s2) = Lib.strCells s2 := by simp [encs, bytesOf, Lib.strCells]
  by_cases hpos : 0 < l.length
  · refine app1_goes (W := W) hgd hd ho ht hinfo rfl rfl hxa hxb rfl rfl ?_
    refine ⟨(h (.bool true)).1, hpos, by have := (h (.bool true)).2.2.1; omega, fun v1 w1 hR1 hB1 => ⟨v1, rfl, ?_⟩⟩
    obtain ⟨_, h2, hlim, hR⟩ := h v1
    have hbase : (W.alloc (.cells (constRow s) e fz)).heap.size ≤ w1.heap.size := hB1.size
    have hl1 : (bytesOf s ++ l).length = s.size + l.length := by rw [List.length_append, hbl]
    have HO1 := Kd.own_of_R hR1
    obtain ⟨v', w', hr, h2', h3, h4⟩ := run_append_string_at (P := P) w1 (W.alloc (.cells (constRow s) e fz)).heap.size t u o2.type e i ht hu hi hz hsz hby v1 _ (encs (Value.int .u8) (bytesOf s ++ l)) HO1 s2 (by rw [hl1]; simp only [maxLen]; omega) (by rw [hl1]; omega) hbase
    have hll : (bytesOf s ++ l ++ bytesOf s2).length = (bytesOf s ++ l).length + s2.size := by rw [List.length_append, hbl2]
    have hcc : encs (Value.int .u8) (bytesOf s ++ l ++ bytesOf s2) = encs (Value.int .u8) (bytesOf s ++ l) ++ Lib.strCells s2 := by rw [← hsc]; simp [encs]
    obtain ⟨v, hv, hw⟩ := hR v' w' (Kd.R_of_own (by rw [hll, hcc]; exact h2') (fun _ _ => trivial)) (hB1.grown h3 hbase (own_base HO1))
    injection hv with hv
    subst hv
    exact run_plain hgd2 hd2 ho2 (hxc v1) (hxd v1) hr hw
  · have hl0 : l = [] := List.eq_nil_of_length_eq_zero (by omega)
    subst hl0
    obtain ⟨hCr, h2, hlim, hR⟩ := h (.slice (some ⟨W.heap.size, 0, none⟩) s.size s.size)
    have hrun1 : (Builtin.append_ #[t, t] o.type #[.slice (some ⟨W.heap.size, 0, none⟩) s.size s.size, .slice A 0 c]).run P (W.alloc (.cells (constRow s) e fz)) = .ok (.slice (some ⟨W.heap.size, 0, none⟩) s.size s.size) (W.alloc (.cells (constRow s) e fz)) := by
      cases A with
      | none =>
        have hf := run_firstCells_none (P := P) (W.alloc (.cells (constRow s) e fz)) i.size 0 0 c
        simp [Builtin.append_, run_underlying ht, sizeOf, typeInfo, hi, Builtin.lenOf, hf, Go.storeCells]
      | some ad =>
        have hf := run_firstCells_some (P := P) (W.alloc (.cells (constRow s) e fz)) i.size 0 ad 0 c [] (by simp) (by simp)
        simp [Builtin.append_, run_underlying ht, sizeOf, typeInfo, hi, Builtin.lenOf, hf, Go.storeCells]
    simp only [List.length_nil] at hlim
    have hrun := Lib.run_append_grow_string (P := P) (W.alloc (.cells (constRow s) e fz)) t u o2.type e i (.int .u8 0) ht hu hi hz ⟨W.heap.size, 0, none⟩ s.size s.size ((bytesOf s).map (Value.int .u8)) (by rw [hsz, List.length_map, hbl]; omega) (constRow_cells e s W fz) s2 (by omega) (by omega) (by rw [hby]; exact growslice_fits (by omega) (by omega))
    have hge := grownCap_ge (W.alloc (.cells (constRow s) e fz)) (s.size + s2.size) s.size e
    have hle := grownCap_le_maxLen (W.alloc (.cells (constRow s) e fz)) (s.size + s2.size) s.size e (by simp only [maxLen]; omega)
    generalize grownCap (W.alloc (.cells (constRow s) e fz)) (s.size + s2.size) s.size e = cap at hrun hge hle
    have hlen : (bytesOf s ++ [] ++ bytesOf s2).length = s.size + s2.size := by rw [List.append_nil, List.length_append, hbl, hbl2]
    have hnew := new_row e (W.alloc (.cells (constRow s) e fz)) (bytesOf s ++ [] ++ bytesOf s2) cap (Builtin.zeroCells (Value.int .u8 0).cells (cap - (s.size + s2.size))).toList (by rw [hlen]; exact hge) hle (by
      rw [Array.length_toList, size_zeroCells, hlen]
      have : (Value.int IntKind.u8 0).cells.size = 1 := rfl
      rw [this, Nat.mul_one])
    have harr : ((bytesOf s).map (Value.int .u8)).toArray ++ (Lib.strCells s2).toArray ++ Builtin.zeroCells (Value.int .u8 0).cells (cap - (s.size + s2.size)) = (((bytesOf s ++ [] ++ bytesOf s2).map (Value.int .u8)) ++ (Builtin.zeroCells (Value.int .u8 0).cells (cap - (s.size + s2.size))).toList).toArray := by
      apply Array.ext'
      rw [← hsc]
      simp [List.append_assoc, encs]
    rw [harr] at hrun
    rw [hlen] at hnew
    obtain ⟨v, hv, hw⟩ := hR _ _ hnew.1 hnew.2
    injection hv with hv
    subst hv
    exact run_plain hgd hd ho hxa hxb hrun1 (run_plain hgd2 hd2 ho2 (hxc _) (hxd _) hrun hw)
end Go.Proofs.YtplkkmmojanclaaDoor.My
