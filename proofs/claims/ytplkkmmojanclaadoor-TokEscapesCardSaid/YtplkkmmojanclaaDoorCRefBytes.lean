/- Part of the proof; printed or typed in this session; unused declarations and remarks struck by a program (wip/prune.py). -/
import Derived.Laws.BitsLemmas
import Derived.Test.YtplkkmmojanclaaDoorCQ9
import Derived.Test.YtplkkmmojanclaaDoorCQ21
import Derived.Test.YtplkkmmojanclaaDoorCKit
set_option linter.all false
namespace Go.Proofs.YtplkkmmojanclaaDoor.Tk
open Go.RowKit Go.Proofs.YtplkkmmojanclaaDoor.My Go.Proofs.YtplkkmmojanclaaDoor.Q Go.Proofs.YtplkkmmojanclaaDoorW.PrintWords Go.Proofs.YtplkkmmojanclaaDoorW.PrintLast Go.Proofs.YtplkkmmojanclaaDoorW.PrintMore
theorem wraps_i64 (n : Int) (h0 : 0 ≤ n) (h1 : n < 2 ^ 62) : IntKind.i64.wrap n = n := by rw [IntKind.wrap_i64]; omega
theorem and15 {x : Int} (h0 : 0 ≤ x) (h1 : x < 4611686018427387904) : Go.bits .and .i64 x 15 = x % 16 := bits_mask .i64 62 (by decide) wraps_i64 4 (by decide) x h0 (by omega)
theorem and63 {x : Int} (h0 : 0 ≤ x) (h1 : x < 4611686018427387904) : Go.bits .and .i64 x 63 = x % 64 := bits_mask .i64 62 (by decide) wraps_i64 6 (by decide) x h0 (by omega)
theorem or128' {x : Int} (h0 : 0 ≤ x) (h1 : x < 64) : Go.bits .or .i64 128 x = 128 + x := bits_join .i64 62 (by decide) wraps_i64 6 128 x (by decide) (by decide) (by decide) h0 h1 (by omega)
theorem or192' {x : Int} (h0 : 0 ≤ x) (h1 : x < 64) : Go.bits .or .i64 192 x = 192 + x := bits_join .i64 62 (by decide) wraps_i64 6 192 x (by decide) (by decide) (by decide) h0 h1 (by omega)
theorem or224' {x : Int} (h0 : 0 ≤ x) (h1 : x < 32) : Go.bits .or .i64 224 x = 224 + x := bits_join .i64 62 (by decide) wraps_i64 5 224 x (by decide) (by decide) (by decide) h0 h1 (by omega)
theorem or240' {x : Int} (h0 : 0 ≤ x) (h1 : x < 16) : Go.bits .or .i64 240 x = 240 + x := bits_join .i64 62 (by decide) wraps_i64 4 240 x (by decide) (by decide) (by decide) h0 h1 (by omega)
theorem right_eq (c : Int) : tapestrierref1_right.f c = some (decide (0 ≤ c ∧ c ≤ 1114111 ∧ (c < 55296 ∨ c > 57343))) := by
  unfold tapestrierref1_right.f
  repeat' split
  all_goals (congr 1; first | (symm; apply decide_eq_true; omega) | (symm; apply decide_eq_false; omega) | (apply decide_eq_decide.2; omega))
theorem put_eq (acc : List Int) (c : Int) (hc : Vld c) (ha : acc.length ≤ 100000000000) (k : Nat) (hk : 1 ≤ k) : tapestrierref1_put.f k acc c = some (acc ++ enc c) := by
  obtain ⟨k, rfl⟩ : ∃ m, k = m + 1 := ⟨k - 1, by omega⟩
  unfold Vld at hc
  rw [tapestrierref1_put.f, right_eq, decide_eq_true (by omega), Option.bind_some, if_pos rfl, tapestrierref1_put.j0]
  unfold enc
  by_cases h1 : c < 128
  · rw [if_pos h1, if_pos (by omega), if_pos (by omega), show c % 256 = c by omega]
  · rw [if_neg h1, if_neg (show ¬ c ≤ 127 by omega)]
    by_cases h2 : c < 2048
    · rw [if_pos h2, if_pos (show c ≤ 2047 by omega), Option.bind_some, and63 (by omega) (by omega), or128' (by omega) (by omega), or192' (by omega) (by omega), if_pos (by simp only [List.length_cons, List.length_nil]; omega)]
      rw [show (192 + c / 64) % 256 = 192 + c / 64 by omega, show (128 + c % 64) % 256 = 128 + c % 64 by omega]
    · rw [if_neg h2, if_neg (show ¬ c ≤ 2047 by omega)]
      by_cases h3 : c < 65536
      · rw [if_pos h3, if_pos (show c ≤ 65535 by omega), Option.bind_some, and63 (x := c / 64) (by omega) (by omega), and63 (x := c) (by omega) (by omega), or128' (x := c / 64 % 64) (by omega) (by omega), or128' (x := c % 64) (by omega) (by omega), or224' (by omega) (by omega), if_pos (by simp only [List.length_cons, List.length_nil]; omega)]
        rw [show (224 + c / 4096) % 256 = 224 + c / 4096 by omega, show (128 + c / 64 % 64) % 256 = 128 + c / 64 % 64 by omega, show (128 + c % 64) % 256 = 128 + c % 64 by omega]
      · rw [if_neg h3, if_neg (show ¬ c ≤ 65535 by omega), Option.bind_some, and63 (x := c / 4096) (by omega) (by omega), and63 (x := c / 64) (by omega) (by omega), and63 (x := c) (by omega) (by omega), or128' (x := c / 4096 % 64) (by omega) (by omega), or128' (x := c / 64 % 64) (by omega) (by omega), or128' (x := c % 64) (by omega) (by omega), or240' (by omega) (by omega), if_pos (by simp only [List.length_cons, List.length_nil]; omega)]
        rw [show (240 + c / 262144) % 256 = 240 + c / 262144 by omega, show (128 + c / 4096 % 64) % 256 = 128 + c / 4096 % 64 by omega, show (128 + c / 64 % 64) % 256 = 128 + c / 64 % 64 by omega, show (128 + c % 64) % 256 = 128 + c % 64 by omega]
theorem refBytes_one (c : Int) (hc : Vld c) (k : Nat) (hk : 3 ≤ k) : tapestrierref1_Bytes.f k [c] = some (utf8 [c]) := by
  obtain ⟨k, rfl⟩ : ∃ m, k = m + 1 := ⟨k - 1, by omega⟩
  obtain ⟨k, rfl⟩ : ∃ m, k = m + 1 := ⟨k - 1, by omega⟩
  rw [tapestrierref1_Bytes.f, tapestrierref1_Bytes.l0, if_pos (by simp), if_pos (by omega), show rd [c] 0 = c from rfl, put_eq [] c hc (by simp) (k + 1) (by omega), Option.bind_some, tapestrierref1_Bytes.l0, if_neg (by rw [w64 (by omega) (by omega)]; simp)]
  simp [utf8]
end Go.Proofs.YtplkkmmojanclaaDoor.Tk
