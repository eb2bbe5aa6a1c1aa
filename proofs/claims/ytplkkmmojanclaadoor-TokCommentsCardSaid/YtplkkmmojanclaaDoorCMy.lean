/- Part of the proof; printed or typed in this session; unused declarations and remarks struck by a program (wip/prune.py). -/
import Derived.Test.YtplkkmmojanclaaDoorProg
import Derived.Test.YtplkkmmojanclaaDoorCWWords
import Derived.Test.YtplkkmmojanclaaDoorCWMore
import Derived.Test.YtplkkmmojanclaaDoorCWShare
import Derived.Lib.ConvBytes
import Derived.Lib.AppendStr
set_option linter.all false
namespace Go.Proofs.YtplkkmmojanclaaDoor.My
open Go.RowKit Go.Proofs.YtplkkmmojanclaaDoorW.PrintWords Go.Proofs.YtplkkmmojanclaaDoorW.PrintLast Go.Proofs.YtplkkmmojanclaaDoorW.PrintMore
def ConvRuns (e : TypeId) (s : ByteArray) (w : World) (R : Ending → World → Prop) : Prop :=
  R (.returned (.slice (some ⟨w.heap.size, 0, none⟩) s.size (grownCap w s.size 0 e))) (Lib.bytesWorld w e s)
theorem ConvRuns.mono {e : TypeId} {s : ByteArray} {w : World} {R R' : Ending → World → Prop} (h : ConvRuns e s w R) (hr : ∀ e w', R e w' → R' e w') : ConvRuns e s w R' := hr _ _ h
theorem conv_goes {P : Program} {ops : Array Oper} {rest : List Oper} {o : Oper} {a : Act} {Q : Exit → Act → World → Prop} {W : World} (hgd : o.guard = none) {N : Tmp} (hd : o.dst = some N) {src dst e : TypeId} {s : ByteArray} {x : Operand} {u : TypeDesc}
    (ho : o.op = .convert src dst x) (hs : P.underlying src = some u) (hdt : P.underlying dst = some (.slice e)) (he : P.underlying e = some (.int .u8)) (hx : a.eval x = .string s)
    (h : ConvRuns e s W fun e' w' => ∃ v, e' = .returned v ∧ wpList P ops Q rest (a.put (some N) v) w') : wpList P ops Q (o :: rest) a W := by
  obtain ⟨v, hv, h⟩ := h
  injection hv with hv
  subst hv
  refine wpList_plain hgd fun K hK => ?_
  unfold Oper.wp
  have hrun : (execOp a.eval o).run P W = .ok (.value (.slice (some ⟨W.heap.size, 0, none⟩) s.size (grownCap W s.size 0 e))) (Lib.bytesWorld W e s) := by
    simp only [execOp, ho, hx, Sem.run_bind, Lib.run_convert_string_bytes W src dst e s hs hdt he, Result.andThen, Sem.run_pure]
  rw [hrun]
  show K (a.put o.dst _) _
  rw [hd]
  exact hK _ _ h
theorem bytesOf_length (s : ByteArray) : (bytesOf s).length = s.size := by simp [bytesOf]
theorem below_bytes (w : World) (e : TypeId) (s : ByteArray) : Below w.heap.size w (Lib.bytesWorld w e s) :=
  ⟨rfl, rfl, rfl, by rw [Lib.bytesWorld_size]; omega, fun i hi => Lib.bytesWorld_at_old w e s i hi⟩
theorem reads_bytes (e : TypeId) (s : ByteArray) (hs : s.size ≤ 9223372036854775807) (w W : World) (hW : W.heap[w.heap.size]? = (Lib.bytesWorld w e s).heap[w.heap.size]?) :
    (Kd.int .u8).C W (some ⟨w.heap.size, 0, none⟩) (bytesOf s).length (bytesOf s) := by
  refine ⟨rfl, by rw [bytesOf_length]; exact hs, fun _ => ⟨_, rfl, fun j p hj => ⟨[.int .u8 p], rfl, rfl, fun i u hu => ?_⟩⟩⟩
  cases i with
  | succ i => simp at hu
  | zero =>
    have hu' : Value.int .u8 p = u := by simpa using hu
    subst hu'
    obtain ⟨hl, hp⟩ := List.getElem?_eq_some_iff.1 hj
    rw [bytesOf_length] at hl
    have hc := Lib.bytesWorld_cell w e s j hl
    have e1 : (⟨w.heap.size, 0, none⟩ : Addr).add (j * (Kd.int IntKind.u8).sz + 0) = ⟨w.heap.size, j, none⟩ := by
      have : (Kd.int IntKind.u8).sz = 1 := rfl
      rw [this, Nat.mul_one, Nat.add_zero]
      exact add_plain _ _
    rw [e1]
    have e2 : W.cell? ⟨w.heap.size, j, none⟩ = (Lib.bytesWorld w e s).cell? ⟨w.heap.size, j, none⟩ := by simp only [World.cell?, hW]
    rw [e2, hc]
    have : p = ((s.data.toList.getD j 0).toNat : Int) := by
      rw [← hp]
      simp only [bytesOf, List.getElem_map, List.getD_eq_getElem?_getD]
      rw [List.getElem?_eq_getElem (by simpa using hl)]
      rfl
    rw [this]
def bytesConv5.f (s : ByteArray) : Option (List Int) := if s.size ≤ 9223372036854775807 then some (bytesOf s) else none
theorem bytesConv5.calls (a0 : ByteArray) (r : List Int) (w : World) (h : bytesConv5.f a0 = some r) :
    ConvRuns 5 a0 w fun e' w' => ∃ v0_ : Value, e' = .returned v0_ ∧ Kd.V (Kd.int .u8) 5 w' w.heap.size (fun k_ => w.heap.size ≤ k_) v0_ r ∧ Below w.heap.size w w' := by
  unfold bytesConv5.f at h
  split at h
  · rename_i hs
    injection h with h
    subst h
    refine ⟨_, rfl, ?_, below_bytes w _ a0⟩
    rw [← bytesOf_length]
    exact Kd.V_mk (by rw [bytesOf_length]; exact grownCap_ge _ _ _ _) (fun W' hW => reads_bytes _ a0 hs w W' (hW _ (Nat.le_refl _) (by rw [Lib.bytesWorld_size]; omega)))
  · cases h
theorem run_append_string_at {P : Program} (w : World) (base : Nat) (t u ty e : TypeId) (i : TypeInfo) (ht : P.underlying t = some (.slice e)) (hu : P.underlying u = some .string) (hi : P.info? e = some i) (hz : i.zero = some (.int .u8 0))
    (hsize : i.size = 1) (hby : i.bytes = 1)
    (v : Value) (n : Nat) (xs : List Value) (hown : w.ownsRow base e 1 v n xs) (s : ByteArray)
    (h63 : n + s.size ≤ maxLen) (hbytes : n + s.size ≤ 140737488355328) (hbase : base ≤ w.heap.size) :
    ∃ v' w', (Builtin.append_ #[t, u] ty #[v, .string s]).run P w = .ok v' w' ∧ w'.ownsRow base e 1 v' (n + s.size) (xs ++ Lib.strCells s) ∧ w.grownBy w' v.ownBlock ∧
      (v'.ownBlock = v.ownBlock ∨ v'.ownBlock = some w.heap.size) := by
  obtain ⟨v', w', hr, h2, h3, h4⟩ := Lib.run_append_own_string (P := P) w base t u ty e i ht hu hi hz hsize hby v n xs hown s h63 hbytes hbase
  refine ⟨v', w', hr, h2, h3, ?_⟩
  have hsmall : n + s.size ≤ 9223372036854775807 := by simp only [maxLen] at h63; omega
  have hxl : xs.length = n := by simpa using hown.1
  rcases hown.2 with ⟨rfl, rfl⟩ | ⟨g, cap, cur, rfl, hbg, hg, hnc, hcm, hcs, htake⟩
  · by_cases hm : s.size = 0
    · rw [h4.2 ⟨rfl, hm⟩]; exact .inl rfl
    · have hr2 := run_append_nil_string (P := P) w t u ty e i (.int .u8 0) ht hu hi hz s (by omega) (by omega) (by rw [hby]; omega)
      rw [hr2] at hr
      injection hr with e1 _
      subst e1
      exact .inr rfl
  · have hcs' : cur.size = cap := by simpa using hcs
    by_cases hroom : n + s.size ≤ cap
    · have hr2 := Lib.run_append_room_string (P := P) w t u ty e i ht hu hi hsize g n cap cur hg s hroom (by omega)
      rw [hr2] at hr
      injection hr with e1 _
      subst e1
      exact .inl rfl
    · have holds : ∀ j u, xs[j]? = some u → w.cell? ((⟨g, 0, none⟩ : Addr).add j) = some u := hown.cells (g := g) rfl
      have hr2 := Lib.run_append_grow_string (P := P) w t u ty e i (.int .u8 0) ht hu hi hz ⟨g, 0, none⟩ n cap xs (by rw [hsize]; simpa using hxl) holds s (by omega) (by omega) (by rw [hby]; exact growslice_fits (by omega) (by omega))
      rw [hr2] at hr
      injection hr with e1 _
      subst e1
      exact .inr rfl
theorem R_append_str {P : Program} {ops : Array Oper} {rest : List Oper} {o : Oper} {a : Act} {Q : Exit → Act → World → Prop} {w0 W : World} (base : Nat) (hgd : o.guard = none) (s x : Operand) (t u e : TypeId)
    (ho : o.op = .call { callee := .builtin .append, args := #[s, x], argTypes := #[t, u] })
    (ht : P.underlying t = some (.slice e)) (hu : P.underlying u = some .string) (hinfo : (P.info? e).map (fun i => (i.zero, i.size, i.bytes)) = some (some (.int .u8 0), 1, 1))
    (v : Value) (xs : List Int) (y : ByteArray) (ok : Nat → Prop) (hs : a.eval s = v) (hx : a.eval x = .string y) (hfresh : ∀ k, W.heap.size ≤ k → ok k)
    (HO : (Kd.int .u8).R e W base ok v xs) (HB : Below base w0 W) (hbase : base ≤ W.heap.size) (hl : xs.length + y.size ≤ 140737488355328)
    (h : ∀ v1 w1, (Kd.int .u8).R e w1 base ok v1 (xs ++ bytesOf y) → Below base w0 w1 → W.grownBy w1 v.ownBlock → (v1.ownBlock = v.ownBlock ∨ ∃ b, v1.ownBlock = some b ∧ W.heap.size ≤ b) → wpList P ops Q rest (a.put o.dst v1) w1) :
    wpList P ops Q (o :: rest) a W := by
  obtain ⟨i0, hi, hzz⟩ := Option.map_eq_some_iff.1 hinfo
  simp only [Prod.mk.injEq] at hzz
  obtain ⟨hz0, hz1, hz2⟩ := hzz
  have HO1 := Kd.own_of_R HO
  have h0 := HO.1
  refine wpList_plain hgd fun K hK => ?_
  obtain ⟨v', w', hr, h2, h3, h4⟩ := run_append_string_at (P := P) W base t u o.type e i0 ht hu hi hz0 hz1 hz2 v xs.length (encs (Value.int .u8) xs) HO1 y (by simp only [maxLen]; omega) hl hbase
  unfold Oper.wp execOp
  simp only [ho, resolve, invoke, builtin, Sem.run_bind, Sem.run_pure, Result.andThen_ok, List.map_toArray, List.map_cons, List.map_nil, hs, hx, hr]
  have hl2 : (xs ++ bytesOf y).length = xs.length + y.size := by rw [List.length_append, bytesOf_length]
  have hc : encs (Value.int .u8) (xs ++ bytesOf y) = encs (Value.int .u8) xs ++ Lib.strCells y := by simp [encs, bytesOf, Lib.strCells]
  refine hK _ _ (h v' w' (Kd.R_of_own (by rw [hl2, hc]; exact h2) (fun k hk => ?_)) (HB.grown h3 hbase (own_base HO1)) h3 ?_)
  · rcases h4 with h4 | h4
    · exact h0 k (by rw [← h4]; exact hk)
    · rw [h4] at hk
      injection hk with hk
      exact hfresh k (by omega)
  · rcases h4 with h4 | h4
    · exact .inl h4
    · exact .inr ⟨_, h4, Nat.le_refl _⟩
end Go.Proofs.YtplkkmmojanclaaDoor.My
