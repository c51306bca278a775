/-
  What is proved: plain arithmetic on words of 64 bits: products in two halves, sums with a carry. Conditions: the words' bounds.
  What is proved: what the functions of package value on wide numbers compute. Conditions: sizes below 2^256 where they multiply or add.
  What is proved: what the functions of package value that compare wide numbers compute. Conditions: sizes below 2^256.
-/
import Derived.RowKit
import Derived.Laws.BitsAllLaws
import Derived.Test.YthejmnmkbldacaaGreatDoorAp02
import Derived.Shelf.Spec.BitsCarry
set_option linter.all false
namespace Go.Proofs.YthejmnmkbldacaaGreatDoor.Arith
open Go Go.RowKit

theorem and_low (x : Int) (h0 : 0 ≤ x) (h1 : x < 18446744073709551616) : bits BinOp.and IntKind.u64 x 4294967295 = x % 4294967296 := by
  obtain ⟨n, rfl⟩ := Int.eq_ofNat_of_zero_le h0
  have := u64_and_nat n 4294967295 (by omega) (by decide)
  have e : n &&& 4294967295 = n % 4294967296 := Nat.and_two_pow_sub_one_eq_mod n 32
  rw [e] at this
  simpa using this

/-- products of four halves, and the two words that they make -/
theorem mul_halves (x1 x0 y1 y0 : Int) (hx1 : 0 ≤ x1) (hx1' : x1 ≤ 4294967295) (hx0 : 0 ≤ x0) (hx0' : x0 ≤ 4294967295) (hy1 : 0 ≤ y1) (hy1' : y1 ≤ 4294967295) (hy0 : 0 ≤ y0) (hy0' : y0 ≤ 4294967295) :
    ((x1 * y1) % 18446744073709551616 + ((x1 * y0) % 18446744073709551616 + (x0 * y0) % 18446744073709551616 / 4294967296) % 18446744073709551616 / 4294967296) % 18446744073709551616 +
      ((((x1 * y0) % 18446744073709551616 + (x0 * y0) % 18446744073709551616 / 4294967296) % 18446744073709551616) % 4294967296 + (x0 * y1) % 18446744073709551616) % 18446744073709551616 / 4294967296 =
    (4294967296 * x1 + x0) * (4294967296 * y1 + y0) / 18446744073709551616 := by
  have e : (4294967296 * x1 + x0) * (4294967296 * y1 + y0) = 18446744073709551616 * (x1 * y1) + 4294967296 * (x1 * y0) + 4294967296 * (x0 * y1) + x0 * y0 := by
    rw [Int.add_mul, Int.mul_add, Int.mul_add]
    have h1 : 4294967296 * x1 * (4294967296 * y1) = 18446744073709551616 * (x1 * y1) := by
      rw [Int.mul_assoc, ← Int.mul_assoc x1, Int.mul_comm x1, Int.mul_assoc 4294967296 x1, ← Int.mul_assoc]; rfl
    have h2 : 4294967296 * x1 * y0 = 4294967296 * (x1 * y0) := Int.mul_assoc _ _ _
    have h3 : x0 * (4294967296 * y1) = 4294967296 * (x0 * y1) := by rw [← Int.mul_assoc, Int.mul_comm x0, Int.mul_assoc]
    omega
  rw [e]
  have b : ∀ u v : Int, 0 ≤ u → u ≤ 4294967295 → 0 ≤ v → v ≤ 4294967295 → 0 ≤ u * v ∧ u * v ≤ 18446744065119617025 := fun u v h1 h2 h3 h4 => by
    refine ⟨Int.mul_nonneg h1 h3, ?_⟩
    have := Int.mul_le_mul h2 h4 h3 (by omega)
    omega
  have b1 := b x1 y1 hx1 hx1' hy1 hy1'
  have b2 := b x1 y0 hx1 hx1' hy0 hy0'
  have b3 := b x0 y1 hx0 hx0' hy1 hy1'
  have b4 := b x0 y0 hx0 hx0' hy0 hy0'
  generalize x1 * y1 = p at *
  generalize x1 * y0 = q at *
  generalize x0 * y1 = r at *
  generalize x0 * y0 = s at *
  omega

/-- one word of a product with a carry -/
theorem word_step (p lo hi c : Int) (hp : 0 ≤ p) (hp' : p ≤ 340282366920938463426481119284349108225) (hlo : lo = p % 18446744073709551616) (hhi : hi = p / 18446744073709551616) (hc : 0 ≤ c) (hc' : c < 18446744073709551616) :
    (lo + c + 0) % 18446744073709551616 = (p + c) % 18446744073709551616 ∧ (hi + (lo + c + 0) / 18446744073709551616) % 18446744073709551616 = (p + c) / 18446744073709551616 ∧ 0 ≤ (p + c) / 18446744073709551616 ∧ (p + c) / 18446744073709551616 < 18446744073709551616 := by
  omega

theorem prod_bound (x y : Int) (hx : 0 ≤ x ∧ x < 18446744073709551616) (hy : 0 ≤ y ∧ y < 18446744073709551616) : 0 ≤ x * y ∧ x * y ≤ 340282366920938463426481119284349108225 := by
  refine ⟨Int.mul_nonneg hx.1 hy.1, ?_⟩
  have := Int.mul_le_mul (show x ≤ 18446744073709551615 by omega) (show y ≤ 18446744073709551615 by omega) hy.1 (by omega)
  omega
end Go.Proofs.YthejmnmkbldacaaGreatDoor.Arith

namespace Go.Proofs.YthejmnmkbldacaaGreatDoor
open Go.RowKit

theorem add64 (x y c : Int) (hx : 0 ≤ x) (hy : 0 ≤ y) (hc0 : 0 ≤ c) (hc : c ≤ 1) (w : World) : (callFunc 232 #[.int .u64 x, .int .u64 y, .int .u64 c]).run Tryz.prog w =
    .ok (.value (.tuple #[.int .u64 ((x + y + c) % 18446744073709551616), .int .u64 ((x + y + c) / 18446744073709551616)])) w := by
  obtain ⟨x, rfl⟩ := Int.eq_ofNat_of_zero_le hx
  obtain ⟨y, rfl⟩ := Int.eq_ofNat_of_zero_le hy
  obtain ⟨c, rfl⟩ := Int.eq_ofNat_of_zero_le hc0
  rw [run_callFunc_extern Tryz.func232 (by kernel_rfl) (by kernel_rfl) (by kernel_rfl) (e := add64Entry) (by kernel_rfl), run_add64 x y c (by omega) (by omega) (by omega) (by omega)]
  simp only [Result.andThen]

theorem sub64 (x y b : Int) (hx : 0 ≤ x) (hy : 0 ≤ y) (hy' : y < 18446744073709551616) (hb0 : 0 ≤ b) (hb : b ≤ 1) (w : World) : (callFunc 236 #[.int .u64 x, .int .u64 y, .int .u64 b]).run Tryz.prog w =
    .ok (.value (.tuple #[.int .u64 ((x + 18446744073709551616 - y - b) % 18446744073709551616), .int .u64 (if x < y + b then 1 else 0)])) w := by
  obtain ⟨x, rfl⟩ := Int.eq_ofNat_of_zero_le hx
  obtain ⟨y, rfl⟩ := Int.eq_ofNat_of_zero_le hy
  obtain ⟨b, rfl⟩ := Int.eq_ofNat_of_zero_le hb0
  rw [run_callFunc_extern Tryz.func236 (by kernel_rfl) (by kernel_rfl) (by kernel_rfl) (e := sub64Entry) (by kernel_rfl), run_sub64 x y b (by omega)]
  simp only [Result.andThen]
  have e1 : (((x + 18446744073709551616 - y - b) % 18446744073709551616 : Nat) : Int) = ((x : Int) + 18446744073709551616 - y - b) % 18446744073709551616 := by omega
  have e2 : ((if x < y + b then 1 else 0 : Nat) : Int) = if (x : Int) < y + b then 1 else 0 := by split <;> split <;> omega
  rw [e1, e2]

set_option maxHeartbeats 400000 in
theorem mul64 (x y : Int) (hx : 0 ≤ x ∧ x < 18446744073709551616) (hy : 0 ≤ y ∧ y < 18446744073709551616) (w : World) :
    Calls Tryz.prog 231 #[.int .u64 x, .int .u64 y] w fun e w' => e = .returned (.tuple #[.int .u64 (x * y / 18446744073709551616), .int .u64 (x * y % 18446744073709551616)]) ∧ w = w' := by
  go_enter Tryz.func231, Tryz.ntmps231
  go_wp2
  go_ret2
  refine ⟨ret_eq ?_, rfl⟩
  simp only [Array.getD_eq_getD_getElem?, List.getElem?_toArray, List.getElem?_cons_succ, List.getElem?_cons_zero, Option.getD_some]
  have hl := Arith.and_low x hx.1 hx.2
  have hl' := Arith.and_low y hy.1 hy.2
  have h := Arith.mul_halves (x / 4294967296) (x % 4294967296) (y / 4294967296) (y % 4294967296) (by omega) (by omega) (by omega) (by omega) (by omega) (by omega) (by omega) (by omega)
  rw [show 4294967296 * (x / 4294967296) + x % 4294967296 = x by omega, show 4294967296 * (y / 4294967296) + y % 4294967296 = y by omega] at h
  rw [hl, hl']
  rw [Arith.and_low _ (by rw [IntKind.wrap_u64]; omega) (by rw [IntKind.wrap_u64]; omega)]
  simp only [IntKind.wrap_u64]
  have hp := Arith.prod_bound x y hx hy
  rw [h, Int.emod_eq_of_lt (by omega) (by omega)]

/-- a wide number: its sign, and the four words of its size -/
def wcells (neg : Bool) (a b c d : Int) : Array Value := #[.bool neg, .int .u64 a, .int .u64 b, .int .u64 c, .int .u64 d]
/-- the four words -/
structure Word (a : Int) : Prop where
  lo : 0 ≤ a
  hi : a < 18446744073709551616
def wnum (a b c d : Int) : Int := a + 18446744073709551616 * b + 340282366920938463463374607431768211456 * c + 6277101735386680763835789423207666416102355444464034512896 * d
/-- v is the wide number with this sign and this size -/
def IsWide (v : Value) (neg : Bool) (m : Int) : Prop := ∃ a b c d, v = .agg (wcells neg a b c d) ∧ Word a ∧ Word b ∧ Word c ∧ Word d ∧ wnum a b c d = m

set_option maxHeartbeats 400000 in
theorem whole_any (n : Int) (h : -9223372036854775808 ≤ n ∧ n ≤ 9223372036854775807) (w : World) :
    Calls Tryz.prog 207 #[.int .i64 n] w fun e w' => ∃ v, e = .returned v ∧ IsWide v (decide (n < 0)) n.natAbs ∧ Below w.heap.size w w' := by
  go_enter Tryz.func207, Tryz.ntmps207
  go_wp2
  · have hn : n < 0 := by assumption
    refine bodyPost_ret (v := .agg (wcells true (-n) 0 0 0)) ?_ rfl ⟨_, rfl, ⟨_, _, _, _, by rw [decide_eq_true hn], ⟨by omega, by omega⟩, ⟨by omega, by omega⟩, ⟨by omega, by omega⟩, ⟨by omega, by omega⟩, by unfold wnum; omega⟩, below_new _ _⟩
    have e : IntKind.u64.wrap (-IntKind.u64.wrap n) = -n := by rw [IntKind.wrap_u64, IntKind.wrap_u64]; omega
    simp [results, Tryz.results207, go_sem, e, wcells]
  · have hn : 0 ≤ n := by assumption
    refine bodyPost_ret (v := .agg (wcells false n 0 0 0)) ?_ rfl ⟨_, rfl, ⟨_, _, _, _, by rw [decide_eq_false (by omega)], ⟨by omega, by omega⟩, ⟨by omega, by omega⟩, ⟨by omega, by omega⟩, ⟨by omega, by omega⟩, by unfold wnum; omega⟩, below_new _ _⟩
    simp [results, Tryz.results207, go_sem, wcells]

/-- behind k words: the words made, those left, the carry -/
def TimesRel (a b c d n : Int) (k : Int) (x0 x1 x2 x3 cy : Int) : Prop :=
  (k = 0 ∧ x0 = a ∧ x1 = b ∧ x2 = c ∧ x3 = d ∧ cy = 0) ∨
  (k = 1 ∧ x1 = b ∧ x2 = c ∧ x3 = d ∧ Word x0 ∧ Word cy ∧ x0 + 18446744073709551616 * cy = a * n) ∨
  (k = 2 ∧ x2 = c ∧ x3 = d ∧ Word x0 ∧ Word x1 ∧ Word cy ∧ x0 + 18446744073709551616 * x1 + 340282366920938463463374607431768211456 * cy = a * n + 18446744073709551616 * (b * n)) ∨
  (k = 3 ∧ x3 = d ∧ Word x0 ∧ Word x1 ∧ Word x2 ∧ Word cy ∧ x0 + 18446744073709551616 * x1 + 340282366920938463463374607431768211456 * x2 + 6277101735386680763835789423207666416102355444464034512896 * cy = a * n + 18446744073709551616 * (b * n) + 340282366920938463463374607431768211456 * (c * n)) ∨
  (k = 4 ∧ Word x0 ∧ Word x1 ∧ Word x2 ∧ Word x3 ∧ Word cy ∧ wnum x0 x1 x2 x3 + 115792089237316195423570985008687907853269984665640564039457584007913129639936 * cy = wnum a b c d * n)

theorem word_carry (p y : Int) (hp : 0 ≤ p ∧ p ≤ 340282366920938463426481119284349108225) (hy : Word y) : Word ((p + y) % 18446744073709551616) ∧ Word (p / 18446744073709551616 + (p % 18446744073709551616 + y) / 18446744073709551616) ∧
    (p + y) % 18446744073709551616 + 18446744073709551616 * (p / 18446744073709551616 + (p % 18446744073709551616 + y) / 18446744073709551616) = p + y := by
  obtain ⟨h1, h2⟩ := hy
  exact ⟨⟨by omega, by omega⟩, ⟨by omega, by omega⟩, by omega⟩
theorem times_step0 {a b c d n : Int} (ha : Word a) (hn : Word n) : TimesRel a b c d n 1 (a * n % 18446744073709551616) b c d (a * n / 18446744073709551616 + a * n % 18446744073709551616 / 18446744073709551616) := by
  have hp := Arith.prod_bound a n ⟨ha.lo, ha.hi⟩ ⟨hn.lo, hn.hi⟩
  refine .inr (.inl ⟨rfl, rfl, rfl, rfl, ⟨by omega, by omega⟩, ⟨by omega, by omega⟩, by omega⟩)
theorem times_step1 {a b c d n x0 y : Int} (hb : Word b) (hn : Word n) (h0 : Word x0) (hy : Word y) (he : x0 + 18446744073709551616 * y = a * n) :
    TimesRel a b c d n 2 x0 ((b * n + y) % 18446744073709551616) c d (b * n / 18446744073709551616 + (b * n % 18446744073709551616 + y) / 18446744073709551616) := by
  obtain ⟨h1, h2, h3⟩ := word_carry (b * n) y (Arith.prod_bound b n ⟨hb.lo, hb.hi⟩ ⟨hn.lo, hn.hi⟩) hy
  refine .inr (.inr (.inl ⟨rfl, rfl, rfl, h0, h1, h2, by omega⟩))
theorem times_step2 {a b c d n x0 x1 y : Int} (hc : Word c) (hn : Word n) (h0 : Word x0) (h1' : Word x1) (hy : Word y) (he : x0 + 18446744073709551616 * x1 + 340282366920938463463374607431768211456 * y = a * n + 18446744073709551616 * (b * n)) :
    TimesRel a b c d n 3 x0 x1 ((c * n + y) % 18446744073709551616) d (c * n / 18446744073709551616 + (c * n % 18446744073709551616 + y) / 18446744073709551616) := by
  obtain ⟨h1, h2, h3⟩ := word_carry (c * n) y (Arith.prod_bound c n ⟨hc.lo, hc.hi⟩ ⟨hn.lo, hn.hi⟩) hy
  refine .inr (.inr (.inr (.inl ⟨rfl, rfl, h0, h1', h1, h2, by omega⟩)))
theorem times_step3 {a b c d n x0 x1 x2 y : Int} (hd : Word d) (hn : Word n) (h0 : Word x0) (h1' : Word x1) (h2' : Word x2) (hy : Word y)
    (he : x0 + 18446744073709551616 * x1 + 340282366920938463463374607431768211456 * x2 + 6277101735386680763835789423207666416102355444464034512896 * y = a * n + 18446744073709551616 * (b * n) + 340282366920938463463374607431768211456 * (c * n)) :
    TimesRel a b c d n 4 x0 x1 x2 ((d * n + y) % 18446744073709551616) (d * n / 18446744073709551616 + (d * n % 18446744073709551616 + y) / 18446744073709551616) := by
  obtain ⟨h1, h2, h3⟩ := word_carry (d * n) y (Arith.prod_bound d n ⟨hd.lo, hd.hi⟩ ⟨hn.lo, hn.hi⟩) hy
  refine .inr (.inr (.inr (.inr ⟨rfl, h0, h1', h2', h1, h2, ?_⟩)))
  have e : wnum a b c d * n = a * n + 18446744073709551616 * (b * n) + 340282366920938463463374607431768211456 * (c * n) + 6277101735386680763835789423207666416102355444464034512896 * (d * n) := by
    unfold wnum
    rw [Int.add_mul, Int.add_mul, Int.add_mul, Int.mul_assoc, Int.mul_assoc, Int.mul_assoc]
  rw [e]
  unfold wnum
  omega
theorem wnum_nonneg {a b c d : Int} (ha : Word a) (hb : Word b) (hc : Word c) (hd : Word d) : 0 ≤ wnum a b c d := by
  obtain ⟨_, _⟩ := ha; obtain ⟨_, _⟩ := hb; obtain ⟨_, _⟩ := hc; obtain ⟨_, _⟩ := hd
  unfold wnum
  omega

/-- the world of times: the number's box, the result's -/
def timesW (w : World) (neg : Bool) (x0 x1 x2 x3 : Int) : World := (w.alloc (.cells #[.bool neg, .int .u64 x0, .int .u64 x1, .int .u64 x2, .int .u64 x3] 214)).alloc (.cells #[.bool false, .int .u64 0, .int .u64 0, .int .u64 0, .int .u64 0] 214)

set_option maxHeartbeats 2000000 in
set_option maxRecDepth 100000 in
theorem times_any (neg : Bool) (a b c d n : Int) (ha : Word a) (hb : Word b) (hc : Word c) (hd : Word d) (hn : Word n) (w : World) (hm : wnum a b c d * n < 115792089237316195423570985008687907853269984665640564039457584007913129639936) :
    Calls Tryz.prog 209 #[.agg (wcells neg a b c d), .int .u64 n] w fun e w' => ∃ v, e = .returned v ∧ IsWide v neg (wnum a b c d * n) ∧ Below w.heap.size w w' := by
  unfold wcells
  have i0 : ∀ w, (Instr.index 212 (.agg #[.int .u64 a, .int .u64 b, .int .u64 c, .int .u64 d]) (.int .i64 0)).run Tryz.prog w = .ok (.int .u64 a) w := fun _ => by kernel_rfl
  have i1 : ∀ w, (Instr.index 212 (.agg #[.int .u64 a, .int .u64 b, .int .u64 c, .int .u64 d]) (.int .i64 1)).run Tryz.prog w = .ok (.int .u64 b) w := fun _ => by kernel_rfl
  have i2 : ∀ w, (Instr.index 212 (.agg #[.int .u64 a, .int .u64 b, .int .u64 c, .int .u64 d]) (.int .i64 2)).run Tryz.prog w = .ok (.int .u64 c) w := fun _ => by kernel_rfl
  have i3 : ∀ w, (Instr.index 212 (.agg #[.int .u64 a, .int .u64 b, .int .u64 c, .int .u64 d]) (.int .i64 3)).run Tryz.prog w = .ok (.int .u64 d) w := fun _ => by kernel_rfl
  go_enter Tryz.func209, Tryz.ntmps209
  go_wp2
  go_loopw [5, 6, 7, 8, 9, 10, 13] (fun cy _ _ _ _ _ i wr => ∃ (k x0 x1 x2 x3 y : Int), i = .int .i64 k ∧ cy = .int .u64 y ∧ TimesRel a b c d n k x0 x1 x2 x3 y ∧ wr = timesW w neg x0 x1 x2 x3) (fun _ _ _ _ _ _ i _ => (4 - intOf i).toNat)
  case atStart => exact ⟨0, a, b, c, d, 0, rfl, rfl, .inl ⟨rfl, rfl, rfl, rfl, rfl, rfl⟩, rfl⟩
  case round =>
    obtain ⟨k, x0, x1, x2, x3, y, rfl, rfl, hrel, rfl⟩ := hrel
    rcases hrel with ⟨rfl, rfl, rfl, rfl, rfl, rfl⟩ | ⟨rfl, rfl, rfl, rfl, h0, hy, he⟩ | ⟨rfl, rfl, rfl, h0, h1, hy, he⟩ | ⟨rfl, rfl, h0, h1, h2, hy, he⟩ | ⟨rfl, h0, h1, h2, h3, hy, he⟩
    · unfold timesW
      go_wp2_with fail
      refine (mul64 _ _ ⟨ha.lo, ha.hi⟩ ⟨hn.lo, hn.hi⟩ _).mono ?_
      rintro e w' ⟨rfl, rfl⟩
      have hp := Arith.prod_bound _ _ ⟨ha.lo, ha.hi⟩ ⟨hn.lo, hn.hi⟩
      have hA := add64 (x0 * n % 18446744073709551616) 0 0 (by omega) (by omega) (by omega) (by omega)
      go_wp2_with fail
      exact ⟨⟨1, _, _, _, _, _, rfl, rfl, times_step0 ha hn, rfl⟩, by simp [intOf]⟩
    · unfold timesW
      go_wp2_with fail
      refine (mul64 _ _ ⟨hb.lo, hb.hi⟩ ⟨hn.lo, hn.hi⟩ _).mono ?_
      rintro e w' ⟨rfl, rfl⟩
      have hp := Arith.prod_bound _ _ ⟨hb.lo, hb.hi⟩ ⟨hn.lo, hn.hi⟩
      have hy1 := hy.lo
      have hy2 := hy.hi
      have hA := add64 (x1 * n % 18446744073709551616) y 0 (by omega) (by omega) (by omega) (by omega)
      have st := times_step1 (c := x2) (d := x3) hb hn h0 hy he
      have ST := Lib.hid st
      have HE := Lib.hid he
      clear he st
      go_wp2_with fail
      exact ⟨⟨2, _, _, _, _, _, rfl, rfl, ST.out, rfl⟩, by simp [intOf]⟩
    · unfold timesW
      go_wp2_with fail
      refine (mul64 _ _ ⟨hc.lo, hc.hi⟩ ⟨hn.lo, hn.hi⟩ _).mono ?_
      rintro e w' ⟨rfl, rfl⟩
      have hp := Arith.prod_bound _ _ ⟨hc.lo, hc.hi⟩ ⟨hn.lo, hn.hi⟩
      have hy1 := hy.lo
      have hy2 := hy.hi
      have hA := add64 (x2 * n % 18446744073709551616) y 0 (by omega) (by omega) (by omega) (by omega)
      have st := times_step2 (d := x3) hc hn h0 h1 hy he
      have ST := Lib.hid st
      have HE := Lib.hid he
      clear he st
      go_wp2_with fail
      exact ⟨⟨3, _, _, _, _, _, rfl, rfl, ST.out, rfl⟩, by simp [intOf]⟩
    · unfold timesW
      go_wp2_with fail
      refine (mul64 _ _ ⟨hd.lo, hd.hi⟩ ⟨hn.lo, hn.hi⟩ _).mono ?_
      rintro e w' ⟨rfl, rfl⟩
      have hp := Arith.prod_bound _ _ ⟨hd.lo, hd.hi⟩ ⟨hn.lo, hn.hi⟩
      have hy1 := hy.lo
      have hy2 := hy.hi
      have hA := add64 (x3 * n % 18446744073709551616) y 0 (by omega) (by omega) (by omega) (by omega)
      have st := times_step3 hd hn h0 h1 h2 hy he
      have ST := Lib.hid st
      have HE := Lib.hid he
      clear he st
      go_wp2_with fail
      exact ⟨⟨4, _, _, _, _, _, rfl, rfl, ST.out, rfl⟩, by simp [intOf]⟩
    · have hw := wnum_nonneg h0 h1 h2 h3
      have hy1 := hy.lo
      have ey : wnum x0 x1 x2 x3 = wnum a b c d * n := by omega
      have EY := Lib.hid ey
      have HE := Lib.hid he
      clear ey he hm hw
      unfold timesW
      go_wp2_with fail
      refine bodyPost_ret (v := .agg (wcells neg x0 x1 x2 x3)) (by simp [results, Tryz.results209, go_sem, wcells]) rfl ⟨_, rfl, ⟨_, _, _, _, rfl, h0, h1, h2, h3, EY.out⟩, (below_new _ _).alloc (by simp) _⟩

theorem pow_bound {m : Int} {d k : Nat} (h0 : 0 ≤ m) (hk : k ≤ d) (h : m * 10 ^ d < 115792089237316195423570985008687907853269984665640564039457584007913129639936) : m * 10 ^ k < 115792089237316195423570985008687907853269984665640564039457584007913129639936 := by
  have h1 : (10 : Int) ^ k ≤ 10 ^ d := by exact_mod_cast Nat.pow_le_pow_right (by omega) hk
  have := Int.mul_le_mul_of_nonneg_left h1 h0
  omega

set_option maxHeartbeats 2000000 in
set_option maxRecDepth 100000 in
theorem shifted_any (neg : Bool) (v : Value) (m : Int) (d : Nat) (hv : IsWide v neg m) (hd : d ≤ 12) (w : World) (hm : m * 10 ^ d < 115792089237316195423570985008687907853269984665640564039457584007913129639936) :
    Calls Tryz.prog 208 #[v, .int .i64 d] w fun e w' => ∃ v', e = .returned v' ∧ IsWide v' neg (m * 10 ^ d) ∧ Below w.heap.size w w' := by
  obtain ⟨a, b, c, e, rfl, ha, hb, hc, he, hmm⟩ := hv
  have hm0 : 0 ≤ m := by rw [← hmm]; exact wnum_nonneg ha hb hc he
  have HM := Lib.hid hmm
  clear hmm
  unfold wcells
  go_enter Tryz.func208, Tryz.ntmps208
  go_wp2
  go_loopw [6] (fun i wr => ∃ (k : Nat) (a b c e : Int), k ≤ d ∧ i = .int .i64 k ∧ Word a ∧ Word b ∧ Word c ∧ Word e ∧ Hid (wnum a b c e = m * 10 ^ k) ∧ Blk wr w.heap.size 214 [.bool neg, .int .u64 a, .int .u64 b, .int .u64 c, .int .u64 e] ∧ Blk wr (w.heap.size + 1) 214 [.bool false, .int .u64 0, .int .u64 0, .int .u64 0, .int .u64 0] ∧ Below w.heap.size w wr) (fun i _ => d - (intOf i).toNat)
  case atStart => exact ⟨0, a, b, c, e, by omega, rfl, ha, hb, hc, he, by rw [Int.pow_zero, Int.mul_one]; exact HM, (Blk.new _ _ _).alloc _, by have := Blk.new (w.alloc (.cells #[.bool neg, .int .u64 a, .int .u64 b, .int .u64 c, .int .u64 e] 214)) 214 [.bool false, .int .u64 0, .int .u64 0, .int .u64 0, .int .u64 0]; simpa using this, (below_new _ _).alloc (by simp) _⟩
  case round =>
    obtain ⟨k, a, b, c, e, hk, rfl, ha, hb, hc, he, HK, hB, hB', hbel⟩ := hrel
    have c0 := hB.cell 0
    have c1 := hB.cell 1
    have c2 := hB.cell 2
    have c3 := hB.cell 3
    have c4 := hB.cell 4
    simp only [List.getElem?_cons_succ, List.getElem?_cons_zero] at c0 c1 c2 c3 c4
    by_cases hlt : k < d
    · have hbd : wnum a b c e * 10 < 115792089237316195423570985008687907853269984665640564039457584007913129639936 := by
        have := pow_bound (k := k + 1) hm0 (by omega) hm
        rw [HK.out, Int.mul_assoc, ← Int.pow_succ]
        exact this
      go_wp2_with fail
      refine (times_any neg a b c e 10 ha hb hc he ⟨by omega, by omega⟩ wr hbd).mono ?_
      rintro e' w1 ⟨v', rfl, ⟨a', b', c', d', rfl, ha', hb', hc', hd', hn'⟩, hb1⟩
      have HN := Lib.hid hn'
      clear hn' c0 c1 c2 c3 c4 hbd
      have hB1 := hB.below hb1 hB.lt
      have hB1' := hB'.below hb1 hB'.lt
      have hbel1 := hbel.trans (hb1.mono hbel.size)
      have c0 := hB1.cell 0
      have c1 := hB1.cell 1
      have c2 := hB1.cell 2
      have c3 := hB1.cell 3
      have c4 := hB1.cell 4
      have f0 := hB1.frozen
      simp only [List.getElem?_cons_succ, List.getElem?_cons_zero] at c0 c1 c2 c3 c4
      unfold wcells
      go_wp2_with fail
      go_roundw
      case rel => exact ⟨k + 1, a', b', c', d', by omega, by go_num, ha', hb', hc', hd', Lib.hid (by rw [HN.out, HK.out, Int.mul_assoc, ← Int.pow_succ]), hB1.set5 _ _ _ _ _, hB1'.far5 (by omega) _ _ _ _ _, below_set5 hbel1 (Nat.le_refl _) _ _ _ _ _⟩
      case measure => simp [intOf]; omega
    · obtain rfl : k = d := by omega
      have d0 := hB'.cell 0
      have d1 := hB'.cell 1
      have d2 := hB'.cell 2
      have d3 := hB'.cell 3
      have d4 := hB'.cell 4
      have f0 := hB'.frozen
      simp only [List.getElem?_cons_succ, List.getElem?_cons_zero] at d0 d1 d2 d3 d4
      go_wp2_with fail
      have hfin := hB'.set5 (.bool neg) (.int .u64 a) (.int .u64 b) (.int .u64 c) (.int .u64 e)
      have e0 := hfin.cell 0
      have e1 := hfin.cell 1
      have e2 := hfin.cell 2
      have e3 := hfin.cell 3
      have e4 := hfin.cell 4
      simp only [List.getElem?_cons_succ, List.getElem?_cons_zero] at e0 e1 e2 e3 e4
      refine bodyPost_ret (v := .agg (wcells neg a b c e)) (by simp [results, Tryz.results208, go_sem, wcells, e0, e1, e2, e3, e4]) rfl ⟨_, rfl, ⟨_, _, _, _, rfl, ha, hb, hc, he, HK.out⟩, below_set5 hbel (by omega) _ _ _ _ _⟩
end Go.Proofs.YthejmnmkbldacaaGreatDoor

namespace Go.Proofs.YthejmnmkbldacaaGreatDoor
open Go.RowKit

set_option maxHeartbeats 400000 in
theorem negated_any (v : Value) (neg : Bool) (m : Int) (hv : IsWide v neg m) (w : World) :
    Calls Tryz.prog 233 #[v] w fun e w' => ∃ v', e = .returned v' ∧ IsWide v' (!neg) m ∧ Below w.heap.size w w' := by
  obtain ⟨a, b, c, d, rfl, ha, hb, hc, hd, hm⟩ := hv
  have HM := Lib.hid hm
  clear hm
  unfold wcells
  go_enter Tryz.func233, Tryz.ntmps233
  go_wp2
  refine bodyPost_ret (v := .agg (wcells (!neg) a b c d)) (by simp [results, Tryz.results233, go_sem, wcells]) rfl ⟨_, rfl, ⟨_, _, _, _, rfl, ha, hb, hc, hd, HM.out⟩, (below_new _ _).alloc (by simp) _⟩

theorem u64_equalIn (n : Nat) (a b : Int) (w : World) : (Op.equalIn (n + 1) 211 (.int .u64 a) (.int .u64 b)).run Tryz.prog w = .ok (a == b) w := by
  simp [Op.equalIn, run_underlying Tryz.underlying211]
theorem arr_equalIn (n : Nat) (a b c d a' b' c' d' : Int) (w : World) : (Op.equalIn (n + 2) 212 (.agg #[.int .u64 a, .int .u64 b, .int .u64 c, .int .u64 d]) (.agg #[.int .u64 a', .int .u64 b', .int .u64 c', .int .u64 d'])).run Tryz.prog w = .ok (decide (a = a' ∧ b = b' ∧ c = c' ∧ d = d')) w := by
  rw [Op.equalIn]
  simp only [Sem.run_bind, run_underlying Tryz.underlying212, Result.andThen_ok]
  simp [Std.Legacy.Range.forIn_eq_forIn_range', List.range', go_sem, u64_equalIn]
  repeat' split
  all_goals simp_all

set_option maxHeartbeats 400000 in
theorem zero_any (v : Value) (neg : Bool) (m : Int) (hv : IsWide v neg m) (w : World) :
    Calls Tryz.prog 218 #[v] w fun e w' => e = .returned (.bool (decide (m = 0))) ∧ Below w.heap.size w w' := by
  obtain ⟨a, b, c, d, rfl, ha, hb', hc, hd, hm⟩ := hv
  have HM := Lib.hid hm
  clear hm
  unfold wcells
  have hb : ∀ w, (binOp .eql 212 (.agg #[.int .u64 a, .int .u64 b, .int .u64 c, .int .u64 d]) (.agg #[.int .u64 0, .int .u64 0, .int .u64 0, .int .u64 0])).run Tryz.prog w = .ok (.bool (decide (a = 0 ∧ b = 0 ∧ c = 0 ∧ d = 0))) w := fun w => by
    have h := arr_equalIn 9998 a b c d 0 0 0 0
    simp only [binOp]
    simp [Op.equal, Op.maxDepth, h]
  have e : decide (a = 0 ∧ b = 0 ∧ c = 0 ∧ d = 0) = decide (m = 0) := by
    rw [← HM.out]
    obtain ⟨_, _⟩ := ha; obtain ⟨_, _⟩ := hb'; obtain ⟨_, _⟩ := hc; obtain ⟨_, _⟩ := hd
    unfold wnum
    congr 1
    refine propext ⟨fun h => by omega, fun h => by omega⟩
  have HE := Lib.hid e
  clear e
  go_enter Tryz.func218, Tryz.ntmps218
  go_wp2
  go_ret
  refine ⟨ret_eq (congrArg Value.bool ?_), below_new _ _⟩
  rw [← HE.out]
  simp only [Bool.decide_and]

/-- how far compareSize has come: the words above are alike -/
def SizeRel (a b c d a' b' c' d' k : Int) : Prop := k = 3 ∨ (k = 2 ∧ d = d') ∨ (k = 1 ∧ d = d' ∧ c = c') ∨ (k = 0 ∧ d = d' ∧ c = c' ∧ b = b') ∨ (k = -1 ∧ d = d' ∧ c = c' ∧ b = b' ∧ a = a')
theorem size_lt {a b c d a' b' c' d' : Int} (ha : Word a) (hb : Word b) (hc : Word c) (hd : Word d) (ha' : Word a') (hb' : Word b') (hc' : Word c') (hd' : Word d')
    (h : d < d' ∨ (d = d' ∧ c < c') ∨ (d = d' ∧ c = c' ∧ b < b') ∨ (d = d' ∧ c = c' ∧ b = b' ∧ a < a')) : wnum a b c d < wnum a' b' c' d' := by
  obtain ⟨_, _⟩ := ha; obtain ⟨_, _⟩ := hb; obtain ⟨_, _⟩ := hc; obtain ⟨_, _⟩ := hd
  obtain ⟨_, _⟩ := ha'; obtain ⟨_, _⟩ := hb'; obtain ⟨_, _⟩ := hc'; obtain ⟨_, _⟩ := hd'
  unfold wnum
  omega

set_option maxHeartbeats 4000000 in
set_option maxRecDepth 100000 in
theorem compareSize_any (v v' : Value) (neg neg' : Bool) (m m' : Int) (hv : IsWide v neg m) (hv' : IsWide v' neg' m') (w : World) :
    Calls Tryz.prog 235 #[v, v'] w fun e w' => e = .returned (.int .i64 (cmpI m m')) ∧ Below w.heap.size w w' := by
  obtain ⟨a, b, c, d, rfl, ha, hb, hc, hd, rfl⟩ := hv
  obtain ⟨a', b', c', d', rfl, ha', hb', hc', hd', rfl⟩ := hv'
  unfold wcells
  go_enter Tryz.func235, Tryz.ntmps235
  go_wp2
  have hbel : ∀ n, Below w.heap.size w (((w.alloc (.cells #[.bool neg, .int .u64 a, .int .u64 b, .int .u64 c, .int .u64 d] 214)).alloc (.cells #[.bool neg', .int .u64 a', .int .u64 b', .int .u64 c', .int .u64 d'] 214)).drewN n) := fun n => below_drewN ((below_new _ _).alloc (by simp) _) n
  have HB := Lib.hid hbel
  clear hbel
  go_loopw [5] (fun i wr => ∃ k : Int, i = .int .i64 k ∧ SizeRel a b c d a' b' c' d' k ∧ ∃ n, wr = ((w.alloc (.cells #[.bool neg, .int .u64 a, .int .u64 b, .int .u64 c, .int .u64 d] 214)).alloc (.cells #[.bool neg', .int .u64 a', .int .u64 b', .int .u64 c', .int .u64 d'] 214)).drewN n) (fun i _ => (intOf i + 1).toNat)
  case atStart => exact ⟨3, rfl, .inl rfl, 0, rfl⟩
  case round =>
    obtain ⟨k, rfl, hk, n, rfl⟩ := hrel
    rcases hk with rfl | ⟨rfl, e3⟩ | ⟨rfl, e3, e2⟩ | ⟨rfl, e3, e2, e1⟩ | ⟨rfl, e3, e2, e1, e0⟩
    · go_wp2
      go_quiet (fail)
      go_wp2
      · have hlt : d < d' := by assumption
        go_ret
        exact ⟨ret_int (cmpI_lt (size_lt ha hb hc hd ha' hb' hc' hd' (.inl hlt))).symm, by repeat (first | exact HB.out _ | apply below_drewN)⟩
      · go_quiet (fail)
        go_wp2
        · have hlt : d' < d := by assumption
          go_ret
          exact ⟨ret_int (cmpI_gt (size_lt ha' hb' hc' hd' ha hb hc hd (.inl hlt))).symm, by repeat (first | exact HB.out _ | apply below_drewN)⟩
        · have h1 : d' ≤ d := by assumption
          have h2 : d ≤ d' := by assumption
          go_roundw
          case rel => exact ⟨2, rfl, .inr (.inl ⟨rfl, by omega⟩), _, rfl⟩
          case measure => simp [intOf]
    · have Ee3 := Lib.hid e3
      clear e3
      go_wp2
      go_quiet (fail)
      go_wp2
      · have hlt : c < c' := by assumption
        go_ret
        exact ⟨ret_int (cmpI_lt (size_lt ha hb hc hd ha' hb' hc' hd' (.inr (.inl ⟨Ee3.out, hlt⟩)))).symm, by repeat (first | exact HB.out _ | apply below_drewN)⟩
      · go_quiet (fail)
        go_wp2
        · have hlt : c' < c := by assumption
          go_ret
          exact ⟨ret_int (cmpI_gt (size_lt ha' hb' hc' hd' ha hb hc hd (.inr (.inl ⟨Ee3.out.symm, hlt⟩)))).symm, by repeat (first | exact HB.out _ | apply below_drewN)⟩
        · have h1 : c' ≤ c := by assumption
          have h2 : c ≤ c' := by assumption
          go_roundw
          case rel => exact ⟨1, rfl, .inr (.inr (.inl ⟨rfl, Ee3.out, by omega⟩)), _, rfl⟩
          case measure => simp [intOf]
    · have Ee3 := Lib.hid e3
      have Ee2 := Lib.hid e2
      clear e3 e2
      go_wp2
      go_quiet (fail)
      go_wp2
      · have hlt : b < b' := by assumption
        go_ret
        exact ⟨ret_int (cmpI_lt (size_lt ha hb hc hd ha' hb' hc' hd' (.inr (.inr (.inl ⟨Ee3.out, Ee2.out, hlt⟩))))).symm, by repeat (first | exact HB.out _ | apply below_drewN)⟩
      · go_quiet (fail)
        go_wp2
        · have hlt : b' < b := by assumption
          go_ret
          exact ⟨ret_int (cmpI_gt (size_lt ha' hb' hc' hd' ha hb hc hd (.inr (.inr (.inl ⟨Ee3.out.symm, Ee2.out.symm, hlt⟩))))).symm, by repeat (first | exact HB.out _ | apply below_drewN)⟩
        · have h1 : b' ≤ b := by assumption
          have h2 : b ≤ b' := by assumption
          go_roundw
          case rel => exact ⟨0, rfl, .inr (.inr (.inr (.inl ⟨rfl, Ee3.out, Ee2.out, by omega⟩))), _, rfl⟩
          case measure => simp [intOf]
    · have Ee3 := Lib.hid e3
      have Ee2 := Lib.hid e2
      have Ee1 := Lib.hid e1
      clear e3 e2 e1
      go_wp2
      go_quiet (fail)
      go_wp2
      · have hlt : a < a' := by assumption
        go_ret
        exact ⟨ret_int (cmpI_lt (size_lt ha hb hc hd ha' hb' hc' hd' (.inr (.inr (.inr ⟨Ee3.out, Ee2.out, Ee1.out, hlt⟩))))).symm, by repeat (first | exact HB.out _ | apply below_drewN)⟩
      · go_quiet (fail)
        go_wp2
        · have hlt : a' < a := by assumption
          go_ret
          exact ⟨ret_int (cmpI_gt (size_lt ha' hb' hc' hd' ha hb hc hd (.inr (.inr (.inr ⟨Ee3.out.symm, Ee2.out.symm, Ee1.out.symm, hlt⟩))))).symm, by repeat (first | exact HB.out _ | apply below_drewN)⟩
        · have h1 : a' ≤ a := by assumption
          have h2 : a ≤ a' := by assumption
          go_roundw
          case rel => exact ⟨-1, rfl, .inr (.inr (.inr (.inr ⟨rfl, Ee3.out, Ee2.out, Ee1.out, by omega⟩))), _, rfl⟩
          case measure => simp [intOf]
    · have E := Lib.hid (show wnum a b c d = wnum a' b' c' d' by rw [e3, e2, e1, e0])
      clear e3 e2 e1 e0
      go_wp2
      go_ret
      exact ⟨ret_int (cmpI_eq E.out).symm, by repeat (first | exact HB.out _ | apply below_drewN)⟩
end Go.Proofs.YthejmnmkbldacaaGreatDoor
