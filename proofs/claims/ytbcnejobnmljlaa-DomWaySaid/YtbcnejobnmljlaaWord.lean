/- Rules on words: unsigned numbers of 64 bits told as natural numbers; signed ones that are natural. Over any program. -/
import Derived.Test.YtbcnejobnmljlaaMore
namespace Go.Proofs.Ytbcnejobnmljlaa
set_option linter.unusedVariables false
open Go Go.RowKit

theorem wrapu {n : Nat} (h : n < 2 ^ 64) : IntKind.u64.wrap (n : Int) = (n : Int) := IntWalk.u64_in _ (by omega)
theorem wrapi {n : Nat} (h : n < 2 ^ 63) : IntKind.i64.wrap (n : Int) = (n : Int) := IntWalk.i64_in _ (by omega)
theorem bvNat {n : Nat} (h : n < 2 ^ 64) : (BitVec.ofInt 64 (n : Int)).toNat = n := by
  rw [BitVec.ofInt_natCast, BitVec.toNat_ofNat, Nat.mod_eq_of_lt h]
theorem wrapU (n : Int) : IntKind.u64.wrap n = n % 18446744073709551616 := by simp [IntKind.wrap, IntKind.bits, IntKind.signed]
theorem wrap_neg {a : Int} (h1 : -9223372036854775808 ≤ a) (h2 : a < 0) : IntKind.u64.wrap a = a + 18446744073709551616 := by rw [wrapU]; omega
theorem two64 : (2 : Nat) ^ 64 = 18446744073709551616 := rfl
theorem natPow (n : Nat) : ((2 : Int) ^ n) = ((2 ^ n : Nat) : Int) := by simp
theorem fdivN (a n : Nat) : (a : Int).fdiv (2 ^ n) = ((a / 2 ^ n : Nat) : Int) := by
  rw [natPow, Int.fdiv_eq_ediv_of_nonneg _ (Int.natCast_nonneg _)]
  rfl
theorem mulN (a n : Nat) : (a : Int) * 2 ^ n = ((a * 2 ^ n : Nat) : Int) := by rw [natPow]; rfl
section
variable {P : Program} {w0 : World} {B : Nat} {σ : Env} {L : List Res} {d : Option Nat} {ty T : TypeId} {pos : String} {af : Array Edge} {gd : Option (Nat × Bool)} {x y z : Operand} {u : TypeId} {a b : Nat}
theorem oru (hx : ev σ x = .int .u64 (a : Int) := by exact rfl) (hy : ev σ y = .int .u64 (b : Int) := by exact rfl) (ha : a < 2 ^ 64 := by omega) (hb : b < 2 ^ 64 := by omega) : Sd P w0 B ⟨d, .binOp .or T x y u, ty, pos, af, gd⟩ σ L (.int .u64 ((a ||| b : Nat) : Int)) := by
  have := bti (op := .or) (d := d) (T := T) (u := u) (ty := ty) (pos := pos) (af := af) (gd := gd) (P := P) (w0 := w0) (B := B) (L := L) (.inr (.inl rfl)) hx hy
  have e : ((BitVec.ofInt IntKind.u64.bits (a : Int) ||| BitVec.ofInt IntKind.u64.bits (b : Int) : BitVec IntKind.u64.bits)).toNat = a ||| b := by
    show ((BitVec.ofInt 64 (a : Int) ||| BitVec.ofInt 64 (b : Int) : BitVec 64)).toNat = a ||| b
    rw [BitVec.toNat_or, bvNat ha, bvNat hb]
  simp only [e] at this
  rwa [wrapu (Nat.or_lt_two_pow ha hb)] at this
theorem andu (hx : ev σ x = .int .u64 (a : Int) := by exact rfl) (hy : ev σ y = .int .u64 (b : Int) := by exact rfl) (ha : a < 2 ^ 64 := by omega) (hb : b < 2 ^ 64 := by omega) : Sd P w0 B ⟨d, .binOp .and T x y u, ty, pos, af, gd⟩ σ L (.int .u64 ((a &&& b : Nat) : Int)) := by
  have := bti (op := .and) (d := d) (T := T) (u := u) (ty := ty) (pos := pos) (af := af) (gd := gd) (P := P) (w0 := w0) (B := B) (L := L) (.inl rfl) hx hy
  have e : ((BitVec.ofInt IntKind.u64.bits (a : Int) &&& BitVec.ofInt IntKind.u64.bits (b : Int) : BitVec IntKind.u64.bits)).toNat = a &&& b := by
    show ((BitVec.ofInt 64 (a : Int) &&& BitVec.ofInt 64 (b : Int) : BitVec 64)).toNat = a &&& b
    rw [BitVec.toNat_and, bvNat ha, bvNat hb]
  simp only [e] at this
  rwa [wrapu (Nat.lt_of_le_of_lt Nat.and_le_left ha)] at this
/-- a, without what b has. -/
def less (a b : Nat) : Nat := a ^^^ (a &&& b)
theorem testBit_less (a b i : Nat) : (less a b).testBit i = (a.testBit i && !b.testBit i) := by
  unfold less
  rw [Nat.testBit_xor, Nat.testBit_and]
  cases a.testBit i <;> cases b.testBit i <;> rfl
theorem less_lt {a b n : Nat} (ha : a < 2 ^ n) : less a b < 2 ^ n := Nat.xor_lt_two_pow ha (Nat.lt_of_le_of_lt Nat.and_le_left ha)
theorem anu (hx : ev σ x = .int .u64 (a : Int) := by exact rfl) (hy : ev σ y = .int .u64 (b : Int) := by exact rfl) (ha : a < 2 ^ 64 := by omega) (hb : b < 2 ^ 64 := by omega) : Sd P w0 B ⟨d, .binOp .andNot T x y u, ty, pos, af, gd⟩ σ L (.int .u64 ((less a b : Nat) : Int)) := by
  have := bti (op := .andNot) (d := d) (T := T) (u := u) (ty := ty) (pos := pos) (af := af) (gd := gd) (P := P) (w0 := w0) (B := B) (L := L) (.inr (.inr (.inr rfl))) hx hy
  have e : ((BitVec.ofInt IntKind.u64.bits (a : Int) &&& ~~~ (BitVec.ofInt IntKind.u64.bits (b : Int)) : BitVec IntKind.u64.bits)).toNat = less a b := by
    show ((BitVec.ofInt 64 (a : Int) &&& ~~~ (BitVec.ofInt 64 (b : Int)) : BitVec 64)).toNat = less a b
    apply Nat.eq_of_testBit_eq
    intro i
    rw [testBit_less, BitVec.toNat_and, Nat.testBit_and, bvNat ha, BitVec.testBit_toNat, BitVec.getLsbD_not, ← BitVec.testBit_toNat, bvNat hb]
    by_cases hi : i < 64
    · simp [hi]
    · have : a.testBit i = false := Nat.testBit_lt_two_pow (Nat.lt_of_lt_of_le ha (Nat.pow_le_pow_right (by omega) (by omega)))
      simp [this]
  simp only [e] at this
  rwa [wrapu (less_lt ha)] at this
/-- A shift of a word to the left, by a number below 64. -/
theorem shlu {k : IntKind} {n : Nat} (hx : ev σ x = .int .u64 (a : Int) := by exact rfl) (hy : ev σ y = .int k (n : Int) := by exact rfl) (hn : n < 64 := by omega) : Sd P w0 B ⟨d, .binOp .shl T x y u, ty, pos, af, gd⟩ σ L (.int .u64 ((a * 2 ^ n % 2 ^ 64 : Nat) : Int)) := by
  have := shli (d := d) (T := T) (u := u) (ty := ty) (pos := pos) (af := af) (gd := gd) (P := P) (w0 := w0) (B := B) (L := L) hx hy (by show n ≤ 64; omega)
  have e : IntKind.u64.wrap ((a : Int) * 2 ^ n) = ((a * 2 ^ n % 2 ^ 64 : Nat) : Int) := by
    rw [mulN, wrapU, two64]; rfl
  rwa [e] at this
theorem shru {k : IntKind} {n : Nat} (hx : ev σ x = .int .u64 (a : Int) := by exact rfl) (hy : ev σ y = .int k (n : Int) := by exact rfl) (hn : n < 65 := by omega) : Sd P w0 B ⟨d, .binOp .shr T x y u, ty, pos, af, gd⟩ σ L (.int .u64 ((a / 2 ^ n : Nat) : Int)) := by
  have := shri (d := d) (T := T) (u := u) (ty := ty) (pos := pos) (af := af) (gd := gd) (P := P) (w0 := w0) (B := B) (L := L) hx hy (by show n ≤ 64; omega)
  rwa [fdivN] at this
/-- A signed number that is natural: to the right; and with a mask. -/
theorem shrn {k : IntKind} {n : Nat} (hx : ev σ x = .int .i64 (a : Int) := by exact rfl) (hy : ev σ y = .int k (n : Int) := by exact rfl) (hn : n < 65 := by omega) : Sd P w0 B ⟨d, .binOp .shr T x y u, ty, pos, af, gd⟩ σ L (.int .i64 ((a / 2 ^ n : Nat) : Int)) := by
  have := shri (d := d) (T := T) (u := u) (ty := ty) (pos := pos) (af := af) (gd := gd) (P := P) (w0 := w0) (B := B) (L := L) hx hy (by show n ≤ 64; omega)
  rwa [fdivN] at this
theorem andn (hx : ev σ x = .int .i64 (a : Int) := by exact rfl) (hy : ev σ y = .int .i64 (b : Int) := by exact rfl) (ha : a < 2 ^ 63 := by omega) (hb : b < 2 ^ 63 := by omega) : Sd P w0 B ⟨d, .binOp .and T x y u, ty, pos, af, gd⟩ σ L (.int .i64 ((a &&& b : Nat) : Int)) := by
  have := bti (op := .and) (d := d) (T := T) (u := u) (ty := ty) (pos := pos) (af := af) (gd := gd) (P := P) (w0 := w0) (B := B) (L := L) (.inl rfl) hx hy
  have e : ((BitVec.ofInt IntKind.i64.bits (a : Int) &&& BitVec.ofInt IntKind.i64.bits (b : Int) : BitVec IntKind.i64.bits)).toNat = a &&& b := by
    show ((BitVec.ofInt 64 (a : Int) &&& BitVec.ofInt 64 (b : Int) : BitVec 64)).toNat = a &&& b
    rw [BitVec.toNat_and, bvNat (by omega), bvNat (by omega)]
  simp only [e] at this
  rwa [wrapi (Nat.lt_of_le_of_lt Nat.and_le_left ha)] at this
theorem shln {k : IntKind} {n : Nat} (hx : ev σ x = .int .i64 (a : Int) := by exact rfl) (hy : ev σ y = .int k (n : Int) := by exact rfl) (hn : n < 65 := by omega) (hr : a * 2 ^ n < 2 ^ 63 := by omega) : Sd P w0 B ⟨d, .binOp .shl T x y u, ty, pos, af, gd⟩ σ L (.int .i64 ((a * 2 ^ n : Nat) : Int)) := by
  have := shli (d := d) (T := T) (u := u) (ty := ty) (pos := pos) (af := af) (gd := gd) (P := P) (w0 := w0) (B := B) (L := L) hx hy (by show n ≤ 64; omega)
  rwa [mulN, wrapi hr] at this
/-- What adds to a word. -/
theorem adu (hx : ev σ x = .int .u64 (a : Int) := by exact rfl) (hy : ev σ y = .int .u64 (b : Int) := by exact rfl) : Sd P w0 B ⟨d, .binOp .add T x y u, ty, pos, af, gd⟩ σ L (.int .u64 (((a + b) % 2 ^ 64 : Nat) : Int)) := by
  have := arw (op := .add) (d := d) (T := T) (u := u) (ty := ty) (pos := pos) (af := af) (gd := gd) (P := P) (w0 := w0) (B := B) (L := L) (.inl rfl) hx hy
  have e : IntKind.u64.wrap ((a : Int) + b) = (((a + b) % 2 ^ 64 : Nat) : Int) := by
    rw [wrapU, two64]; rfl
  simp only [e] at this
  exact this
theorem mlu (hx : ev σ x = .int .u64 (a : Int) := by exact rfl) (hy : ev σ y = .int .u64 (b : Int) := by exact rfl) : Sd P w0 B ⟨d, .binOp .mul T x y u, ty, pos, af, gd⟩ σ L (.int .u64 ((a * b % 2 ^ 64 : Nat) : Int)) := by
  have := arw (op := .mul) (d := d) (T := T) (u := u) (ty := ty) (pos := pos) (af := af) (gd := gd) (P := P) (w0 := w0) (B := B) (L := L) (.inr (.inr rfl)) hx hy
  have e : IntKind.u64.wrap ((a : Int) * b) = ((a * b % 2 ^ 64 : Nat) : Int) := by
    rw [wrapU, two64]; rfl
  simp only [e] at this
  exact this
/-- One less: of a word that is not 0. -/
theorem sbu (hx : ev σ x = .int .u64 (a : Int) := by exact rfl) (hy : ev σ y = .int .u64 (b : Int) := by exact rfl) (h : b ≤ a := by omega) (ha : a < 2 ^ 64 := by omega) : Sd P w0 B ⟨d, .binOp .sub T x y u, ty, pos, af, gd⟩ σ L (.int .u64 ((a - b : Nat) : Int)) := by
  have := arw (op := .sub) (d := d) (T := T) (u := u) (ty := ty) (pos := pos) (af := af) (gd := gd) (P := P) (w0 := w0) (B := B) (L := L) (.inr (.inl rfl)) hx hy
  have e : IntKind.u64.wrap ((a : Int) - b) = ((a - b : Nat) : Int) := by
    have := wrapu (n := a - b) (by omega)
    rw [← this]
    congr 1
    omega
  simp only [e] at this
  exact this
theorem ngu (hx : ev σ x = .int .u64 (a : Int) := by exact rfl) (h : 0 < a := by omega) (ha : a < 2 ^ 64 := by omega) : Sd P w0 B ⟨d, .unOp .neg T x, ty, pos, af, gd⟩ σ L (.int .u64 ((2 ^ 64 - a : Nat) : Int)) := sp_val fun _ => by
  have e : IntKind.u64.wrap (0 - (a : Int)) = ((2 ^ 64 - a : Nat) : Int) := by
    rw [wrapU, two64]; rw [two64] at ha; omega
  rw [Int.zero_sub] at e
  simp [execOp, hx, Op.unary, Op.intArith, e]
/-- The last seven bits of a word, told as a signed number. -/
theorem an127 {a : Nat} (ha : a < 2 ^ 64) (hx : ev σ x = .int .i64 (IntKind.i64.wrap (a : Int)) := by exact rfl) (hy : ev σ y = .int .i64 127 := by exact rfl) : Sd P w0 B ⟨d, .binOp .and T x y u, ty, pos, af, gd⟩ σ L (.int .i64 ((a % 128 : Nat) : Int)) := by
  have := bti (op := .and) (d := d) (T := T) (u := u) (ty := ty) (pos := pos) (af := af) (gd := gd) (P := P) (w0 := w0) (B := B) (L := L) (.inl rfl) hx hy
  have h1 : BitVec.ofInt 64 (IntKind.i64.wrap (a : Int)) = BitVec.ofNat 64 a := by
    apply BitVec.eq_of_toNat_eq
    rw [BitVec.toNat_ofInt, IntKind.wrap_i64]
    show _ = a % 2 ^ 64
    omega
  have e : ((BitVec.ofInt IntKind.i64.bits (IntKind.i64.wrap (a : Int)) &&& BitVec.ofInt IntKind.i64.bits 127 : BitVec IntKind.i64.bits)).toNat = a % 128 := by
    show ((BitVec.ofInt 64 (IntKind.i64.wrap (a : Int)) &&& BitVec.ofInt 64 ((127 : Nat) : Int) : BitVec 64)).toNat = a % 128
    rw [h1, BitVec.toNat_and, bvNat (by decide), BitVec.toNat_ofNat, Nat.mod_eq_of_lt ha]
    exact Nat.and_two_pow_sub_one_eq_mod a 7
  simp only [e] at this
  rwa [wrapi (by omega)] at this
/-- A number as a word: where it is natural. -/
theorem cvn {s : TypeDesc} {k : IntKind} (hs : P.underlying T = some s) (hd : InT P u .i64) (hx : ev σ x = .int k (a : Int) := by exact rfl) (ha : a < 2 ^ 63 := by omega) : Sd P w0 B ⟨d, .convert T u x, ty, pos, af, gd⟩ σ L (.int .i64 (a : Int)) := by
  have := cvw (d := d) (ty := ty) (pos := pos) (af := af) (gd := gd) (P := P) (w0 := w0) (B := B) (L := L) hs hd hx
  rwa [wrapi ha] at this
end
end Go.Proofs.Ytbcnejobnmljlaa
