/- The operations, one rule each, over any program. -/
import Derived.Test.YtbcnejobnmljlaaBase
import Derived.Maps.AppendAt
namespace Go.Proofs.Ytbcnejobnmljlaa
set_option linter.unusedVariables false
open Go Go.RowKit

/-! ### Facts on types, closed for a program -/
def flat : TypeDesc → Bool
  | .struct _ | .array _ _ => false
  | _ => true
def OneT (P : Program) (T : TypeId) : Prop := ∃ d, P.underlying T = some d ∧ flat d = true
def AggT (P : Program) (T n : Nat) : Prop := (∃ d, P.underlying T = some d ∧ flat d = false) ∧ (P.info? T).map (·.size) = some n
def SlT (P : Program) (T e s b : Nat) : Prop := P.underlying T = some (.slice e) ∧ (P.info? e).map (fun i => (i.size, i.bytes)) = some (s, b)
def ArT (P : Program) (T n e s : Nat) : Prop := P.underlying T = some (.array n e) ∧ (P.info? e).map (·.size) = some s
def InT (P : Program) (T : TypeId) (k : IntKind) : Prop := P.underlying T = some (.int k)
def ZrT (P : Program) (T : TypeId) (z : Value) : Prop := (P.info? T).map (·.zero) = some (some z)
def fieldB (P : Program) (T i : Nat) : Option (Nat × Nat) := match P.underlying T with
  | some (.struct fs) => (fs[i]?).map fun f => (f.offset, P.cellsOf f.type)
  | _ => none
def FdT (P : Program) (T i off : Nat) : Prop := ∃ s, fieldB P T i = some (off, s + 1)
theorem ZrT.mk {P : Program} {T : TypeId} {z : Value} (h : (P.info? T).map (·.zero) = some (some z)) : ZrT P T z := h
theorem InT.mk {P : Program} {T : TypeId} {k : IntKind} (h : P.underlying T = some (.int k)) : InT P T k := h
theorem OneT.mk {P : Program} {T : TypeId} (h : (P.underlying T).map flat = some true) : OneT P T := by
  cases hu : P.underlying T with
  | none => simp [hu] at h
  | some d => exact ⟨d, hu, by simpa [hu] using h⟩
theorem AggT.mk {P : Program} {T n : Nat} (h : (P.underlying T).map flat = some false) (hs : (P.info? T).map (·.size) = some n) : AggT P T n := by
  refine ⟨?_, hs⟩
  cases hu : P.underlying T with
  | none => simp [hu] at h
  | some d => exact ⟨d, rfl, by simpa [hu] using h⟩
theorem info_of {α : Type} {P : Program} {T : TypeId} {f : TypeInfo → α} {x : α} (h : (P.info? T).map f = some x) : ∃ i, P.info? T = some i ∧ f i = x := Option.map_eq_some_iff.1 h
theorem run_size {P : Program} {T n : Nat} (h : (P.info? T).map (·.size) = some n) (w : World) : (sizeOf T).run P w = .ok n w := by
  obtain ⟨i, hi, he⟩ := info_of h
  simp [sizeOf, typeInfo, hi, he]
theorem run_zero {P : Program} {T : TypeId} {z : Value} (h : ZrT P T z) (w : World) : (zeroValue T).run P w = .ok z w := by
  obtain ⟨i, hi, he⟩ := info_of h
  simp [zeroValue, typeInfo, hi, he]
theorem run_isAgg_one {P : Program} {T : TypeId} (h : OneT P T) (w : World) : (isAgg T).run P w = .ok false w := by
  obtain ⟨d, hd, hf⟩ := h
  simp only [isAgg, Sem.run_bind, run_underlying hd, Result.andThen_ok]
  cases d <;> first | rfl | (simp [flat] at hf)
theorem run_isAgg_agg {P : Program} {T n : Nat} (h : AggT P T n) (w : World) : (isAgg T).run P w = .ok true w := by
  obtain ⟨⟨d, hd, hf⟩, _⟩ := h
  simp only [isAgg, Sem.run_bind, run_underlying hd, Result.andThen_ok]
  cases d <;> first | rfl | (simp [flat] at hf)

/-! ### Addresses -/
theorem add_add_ (a : Addr) (i j : Nat) : (a.add i).add j = a.add (i + j) := by
  unfold Addr.add
  by_cases hi : i = 0 <;> by_cases hj : j = 0 <;> simp [hi, hj, Nat.add_assoc]
theorem add_block_ (a : Addr) (n : Nat) : (a.add n).block = a.block := by unfold Addr.add; split <;> rfl
theorem add_lit_ (g k i : Nat) : (⟨g, k, none⟩ : Addr).add i = ⟨g, k + i, none⟩ := by unfold Addr.add; split <;> simp_all
/-- The place k cells behind a slice's head. -/
def ap (A : Option Addr) (k : Nat) : Addr := (A.getD ⟨0, 0, none⟩).add k
theorem ap_add (A : Option Addr) (k j : Nat) : (ap A k).add j = ap A (k + j) := add_add_ _ _ _
theorem ap_own (g k : Nat) : ap (some ⟨g, 0, none⟩) k = ⟨g, k, none⟩ := by simp [ap, add_lit_]

/-! ### What is read -/
def Rd (w0 : World) (B : Nat) (L : List Res) (p : Addr) (v : Value) : Prop := ∀ M w, Hp w0 B (M ++ L) w → w.cell? p = some v
/-- Cells of a slice that lay there when the function began. -/
def Reads (w : World) (B size : Nat) (A : Option Addr) (n : Nat) (xs : List Value) : Prop :=
  xs.length = n * size ∧ (0 < n → ∃ ad, A = some ad ∧ ad.block < B ∧ ∀ j u, xs[j]? = some u → w.cell? (ad.add j) = some u)
section
variable {w0 : World} {B : Nat} {L : List Res} {p : Addr} {v : Value}
theorem Rd.blk {i g k : Nat} {cs : Array Value} {e : TypeId} {fz : Nat × Nat} (hi : L[i]? = some (blk g (.cells cs e fz))) (hk : cs[k]? = some v) : Rd w0 B L ⟨g, k, none⟩ v := fun _ w h => by
  have := h.at_ hi
  exact (cell_of_row w g k cs e fz this).trans hk
theorem Rd.inp (hb : p.block < B) (hc : w0.cell? p = some v) : Rd w0 B L p v := fun _ _ h => (h.below.cell hb).trans hc
theorem Rd.slc {size n k : Nat} {A : Option Addr} {xs : List Value} (h : Reads w0 B size A n xs) (hk : xs[k]? = some v) : Rd w0 B L (ap A k) v := fun _ _ hh => by
  have hn : 0 < n := by
    rcases Nat.eq_zero_or_pos n with h0 | h0
    · have hl := h.1
      rw [h0, Nat.zero_mul] at hl
      rw [List.eq_nil_of_length_eq_zero hl] at hk
      simp at hk
    · exact h0
  obtain ⟨ad, rfl, hb, hc⟩ := h.2 hn
  exact (hh.below.cell (p := ap (some ad) k) (by simp [ap, add_block_]; exact hb)).trans (hc k v hk)
theorem own_some {w : World} {base : Nat} {e : TypeId} {size n c : Nat} {A : Option Addr} {xs : List Value} (h : w.ownsRow base e size (.slice A n c) n xs) (hn : 0 < n) : ∃ g, A = some ⟨g, 0, none⟩ := by
  rcases h.2 with ⟨_, h0⟩ | ⟨g, cap, cur, hv, _⟩
  · omega
  · cases hv; exact ⟨g, rfl⟩
theorem Rd.row {i size n c k : Nat} {A : Option Addr} {e : TypeId} {xs : List Value} (hi : L[i]? = some (row (.slice A n c) e size n xs)) (hk : xs[k]? = some v) : Rd w0 B L (ap A k) v := fun _ w h => by
  have hr : w.ownsRow 0 e size (.slice A n c) n xs := h.at_ hi
  have hn : 0 < n := by
    rcases Nat.eq_zero_or_pos n with h0 | h0
    · have hl := hr.1
      rw [h0, Nat.zero_mul] at hl
      rw [List.eq_nil_of_length_eq_zero hl] at hk
      simp at hk
    · exact h0
  obtain ⟨g, rfl⟩ := own_some hr hn
  have := hr.cells (g := g) rfl k v hk
  rw [ap_own]
  rwa [add_lit_, Nat.zero_add] at this
end
/-- A slice that is not nil, whatever the heap's frame. -/
def Som (w0 : World) (B : Nat) (L : List Res) (A : Option Addr) : Prop := ∀ M w, Hp w0 B (M ++ L) w → A.isSome = true
theorem Som.slc {w0 : World} {B size n : Nat} {L : List Res} {A : Option Addr} {xs : List Value} (h : Reads w0 B size A n xs) (hn : 0 < n) : Som w0 B L A := fun _ _ _ => by
  obtain ⟨ad, rfl, _⟩ := h.2 hn; rfl
theorem Som.row {w0 : World} {B i size n c : Nat} {L : List Res} {A : Option Addr} {e : TypeId} {xs : List Value} (hi : L[i]? = some (row (.slice A n c) e size n xs)) (hn : 0 < n) : Som w0 B L A := fun _ _ h => by
  obtain ⟨g, rfl⟩ := own_some (h.at_ hi) hn; rfl
theorem Som.lit {w0 : World} {B : Nat} {L : List Res} {a : Addr} : Som w0 B L (some a) := fun _ _ _ => rfl

section
variable {P : Program} {w0 : World} {B : Nat} {σ : Env} {L : List Res} {o : Oper} {d : Option Nat} {ty T : TypeId} {pos : String} {af : Array Edge} {gd : Option (Nat × Bool)} {x y z : Operand} {v : Value}
theorem sp_val (h : ∀ w, (execOp (ev σ) o).run P w = .ok (.value v) w) : Sd P w0 B o σ L v := fun _ w _ => h w
theorem sp_read (h : ∀ M w, Hp w0 B (M ++ L) w → (execOp (ev σ) o).run P w = .ok (.value v) w) : Sd P w0 B o σ L v := h
/-! moves -/
theorem mv (hx : ev σ x = v) : Sd P w0 B ⟨d, .move x, ty, pos, af, gd⟩ σ L (v) := sp_val fun _ => by simp [execOp, hx]
theorem as_ (hx : ev σ x = v) : Sd P w0 B ⟨d, .assign x, ty, pos, af, gd⟩ σ L (v) := sp_val fun _ => by simp [execOp, hx]
theorem mvi {k : IntKind} {a : Int} (hx : ev σ x = .int k a := by exact rfl) : Sd P w0 B ⟨d, .move x, ty, pos, af, gd⟩ σ L ((.int k a)) := mv hx
theorem mvb {b : Bool} (hx : ev σ x = .bool b := by exact rfl) : Sd P w0 B ⟨d, .move x, ty, pos, af, gd⟩ σ L ((.bool b)) := mv hx
theorem mvs {A : Option Addr} {n c : Nat} (hx : ev σ x = .slice A n c := by exact rfl) : Sd P w0 B ⟨d, .move x, ty, pos, af, gd⟩ σ L ((.slice A n c)) := mv hx
theorem mvp {A : Option Addr} (hx : ev σ x = .pointer A := by exact rfl) : Sd P w0 B ⟨d, .move x, ty, pos, af, gd⟩ σ L ((.pointer A)) := mv hx
theorem mvg {cs : Array Value} (hx : ev σ x = .agg cs := by exact rfl) : Sd P w0 B ⟨d, .move x, ty, pos, af, gd⟩ σ L ((.agg cs)) := mv hx
theorem mvm {r : Option Nat} (hx : ev σ x = .map r := by exact rfl) : Sd P w0 B ⟨d, .move x, ty, pos, af, gd⟩ σ L ((.map r)) := mv hx
theorem mvf {f : Fn} {a b : Array Value} (hx : ev σ x = .func f a b := by exact rfl) : Sd P w0 B ⟨d, .move x, ty, pos, af, gd⟩ σ L ((.func f a b)) := mv hx
theorem mvt {a : Array Value} (hx : ev σ x = .tuple a := by exact rfl) : Sd P w0 B ⟨d, .move x, ty, pos, af, gd⟩ σ L ((.tuple a)) := mv hx
theorem mve {t : TypeId} {u : Value} (hx : ev σ x = .iface t u := by exact rfl) : Sd P w0 B ⟨d, .move x, ty, pos, af, gd⟩ σ L ((.iface t u)) := mv hx
theorem asi {k : IntKind} {a : Int} (hx : ev σ x = .int k a := by exact rfl) : Sd P w0 B ⟨d, .assign x, ty, pos, af, gd⟩ σ L ((.int k a)) := as_ hx
theorem asb {b : Bool} (hx : ev σ x = .bool b := by exact rfl) : Sd P w0 B ⟨d, .assign x, ty, pos, af, gd⟩ σ L ((.bool b)) := as_ hx
theorem ass {A : Option Addr} {n c : Nat} (hx : ev σ x = .slice A n c := by exact rfl) : Sd P w0 B ⟨d, .assign x, ty, pos, af, gd⟩ σ L ((.slice A n c)) := as_ hx
theorem asp {A : Option Addr} (hx : ev σ x = .pointer A := by exact rfl) : Sd P w0 B ⟨d, .assign x, ty, pos, af, gd⟩ σ L ((.pointer A)) := as_ hx
theorem asg {cs : Array Value} (hx : ev σ x = .agg cs := by exact rfl) : Sd P w0 B ⟨d, .assign x, ty, pos, af, gd⟩ σ L ((.agg cs)) := as_ hx
theorem asm {r : Option Nat} (hx : ev σ x = .map r := by exact rfl) : Sd P w0 B ⟨d, .assign x, ty, pos, af, gd⟩ σ L ((.map r)) := as_ hx
theorem asf {f : Fn} {a b : Array Value} (hx : ev σ x = .func f a b := by exact rfl) : Sd P w0 B ⟨d, .assign x, ty, pos, af, gd⟩ σ L ((.func f a b)) := as_ hx
theorem ase {t : TypeId} {u : Value} (hx : ev σ x = .iface t u := by exact rfl) : Sd P w0 B ⟨d, .assign x, ty, pos, af, gd⟩ σ L ((.iface t u)) := as_ hx
/-! integers -/
theorem beq_dec (a b : Int) : (a == b) = decide (a = b) := by by_cases h : a = b <;> simp [h]
section
variable {u : TypeId} {a b : Int} {k : IntKind}
theorem addi (hx : ev σ x = .int .i64 a := by exact rfl) (hy : ev σ y = .int .i64 b := by exact rfl) (hr : -9223372036854775808 ≤ a + b ∧ a + b ≤ 9223372036854775807 := by omega) : Sd P w0 B ⟨d, .binOp .add T x y u, ty, pos, af, gd⟩ σ L ((.int .i64 (a + b))) :=
  sp_val fun _ => by simp [execOp, hx, hy, binOp, eqGuard, Op.intArith, IntWalk.i64_in _ hr]
theorem subi (hx : ev σ x = .int .i64 a := by exact rfl) (hy : ev σ y = .int .i64 b := by exact rfl) (hr : -9223372036854775808 ≤ a - b ∧ a - b ≤ 9223372036854775807 := by omega) : Sd P w0 B ⟨d, .binOp .sub T x y u, ty, pos, af, gd⟩ σ L ((.int .i64 (a - b))) :=
  sp_val fun _ => by simp [execOp, hx, hy, binOp, eqGuard, Op.intArith, IntWalk.i64_in _ hr]
theorem muli (hx : ev σ x = .int .i64 a := by exact rfl) (hy : ev σ y = .int .i64 b := by exact rfl) (hr : -9223372036854775808 ≤ a * b ∧ a * b ≤ 9223372036854775807 := by omega) : Sd P w0 B ⟨d, .binOp .mul T x y u, ty, pos, af, gd⟩ σ L ((.int .i64 (a * b))) :=
  sp_val fun _ => by simp [execOp, hx, hy, binOp, eqGuard, Op.intArith, IntWalk.i64_in _ hr]
theorem arw {op : BinOp} (ho : op = .add ∨ op = .sub ∨ op = .mul) (hx : ev σ x = .int k a := by exact rfl) (hy : ev σ y = .int k b := by exact rfl) : Sd P w0 B ⟨d, .binOp op T x y u, ty, pos, af, gd⟩ σ L ((.int k (k.wrap (match op with | .add => a + b | .sub => a - b | _ => a * b)))) :=
  sp_val fun _ => by rcases ho with rfl | rfl | rfl <;> simp [execOp, hx, hy, binOp, eqGuard, Op.intArith]
theorem remi (hx : ev σ x = .int k a := by exact rfl) (hy : ev σ y = .int k b := by exact rfl) (hb : b ≠ 0 := by omega) : Sd P w0 B ⟨d, .binOp .rem T x y u, ty, pos, af, gd⟩ σ L ((.int k (a.tmod b))) :=
  sp_val fun _ => by simp [execOp, hx, hy, binOp, eqGuard, Op.intDiv, hb]
theorem quoi (hx : ev σ x = .int k a := by exact rfl) (hy : ev σ y = .int k b := by exact rfl) (hb : b ≠ 0 := by omega) : Sd P w0 B ⟨d, .binOp .quo T x y u, ty, pos, af, gd⟩ σ L ((.int k (k.wrap (a.tdiv b)))) :=
  sp_val fun _ => by simp [execOp, hx, hy, binOp, eqGuard, Op.intDiv, hb]
theorem lsi (hx : ev σ x = .int k a := by exact rfl) (hy : ev σ y = .int k b := by exact rfl) : Sd P w0 B ⟨d, .binOp .lss T x y u, ty, pos, af, gd⟩ σ L ((.bool (decide (a < b)))) :=
  sp_val fun _ => by simp [execOp, hx, hy, binOp, eqGuard, Op.intCmp]
theorem lei (hx : ev σ x = .int k a := by exact rfl) (hy : ev σ y = .int k b := by exact rfl) : Sd P w0 B ⟨d, .binOp .leq T x y u, ty, pos, af, gd⟩ σ L ((.bool (decide (a ≤ b)))) :=
  sp_val fun _ => by simp [execOp, hx, hy, binOp, eqGuard, Op.intCmp]
theorem gti (hx : ev σ x = .int k a := by exact rfl) (hy : ev σ y = .int k b := by exact rfl) : Sd P w0 B ⟨d, .binOp .gtr T x y u, ty, pos, af, gd⟩ σ L ((.bool (decide (b < a)))) :=
  sp_val fun _ => by simp [execOp, hx, hy, binOp, eqGuard, Op.intCmp]
theorem gei (hx : ev σ x = .int k a := by exact rfl) (hy : ev σ y = .int k b := by exact rfl) : Sd P w0 B ⟨d, .binOp .geq T x y u, ty, pos, af, gd⟩ σ L ((.bool (decide (b ≤ a)))) :=
  sp_val fun _ => by simp [execOp, hx, hy, binOp, eqGuard, Op.intCmp]
theorem eqi (hx : ev σ x = .int k a := by exact rfl) (hy : ev σ y = .int k b := by exact rfl) : Sd P w0 B ⟨d, .binOp .eql T x y u, ty, pos, af, gd⟩ σ L ((.bool (decide (a = b)))) :=
  sp_val fun _ => by simp [execOp, hx, hy, binOp, eqGuard, Op.intCmp, beq_dec]
theorem nei (hx : ev σ x = .int k a := by exact rfl) (hy : ev σ y = .int k b := by exact rfl) : Sd P w0 B ⟨d, .binOp .neq T x y u, ty, pos, af, gd⟩ σ L ((.bool (!decide (a = b)))) :=
  sp_val fun _ => by simp [execOp, hx, hy, binOp, eqGuard, Op.intCmp, bne, beq_dec]
theorem bti {op : BinOp} (ho : op = .and ∨ op = .or ∨ op = .xor ∨ op = .andNot) (hx : ev σ x = .int k a := by exact rfl) (hy : ev σ y = .int k b := by exact rfl) : Sd P w0 B ⟨d, .binOp op T x y u, ty, pos, af, gd⟩ σ L ((.int k (k.wrap ((match op with | .and => BitVec.ofInt k.bits a &&& BitVec.ofInt k.bits b | .or => BitVec.ofInt k.bits a ||| BitVec.ofInt k.bits b | .xor => BitVec.ofInt k.bits a ^^^ BitVec.ofInt k.bits b | _ => BitVec.ofInt k.bits a &&& ~~~(BitVec.ofInt k.bits b)) : BitVec k.bits).toNat))) :=
  sp_val fun _ => by rcases ho with rfl | rfl | rfl | rfl <;> simp [execOp, hx, hy, binOp, eqGuard, Op.intBits]
theorem shri {k2 : IntKind} {n : Nat} (hx : ev σ x = .int k a := by exact rfl) (hy : ev σ y = .int k2 (n : Int) := by exact rfl) (hn : n ≤ k.bits := by decide) : Sd P w0 B ⟨d, .binOp .shr T x y u, ty, pos, af, gd⟩ σ L ((.int k (a.fdiv (2 ^ n)))) :=
  sp_val fun _ => by
    have h0 : ¬ ((n : Int) < 0) := by omega
    have h1 : min n k.bits = n := Nat.min_eq_left hn
    simp [execOp, hx, hy, binOp, eqGuard, Op.shift, h0, h1]
theorem shli {k2 : IntKind} {n : Nat} (hx : ev σ x = .int k a := by exact rfl) (hy : ev σ y = .int k2 (n : Int) := by exact rfl) (hn : n ≤ k.bits := by decide) : Sd P w0 B ⟨d, .binOp .shl T x y u, ty, pos, af, gd⟩ σ L ((.int k (k.wrap (a * 2 ^ n)))) :=
  sp_val fun _ => by
    have h0 : ¬ ((n : Int) < 0) := by omega
    have h1 : min n k.bits = n := Nat.min_eq_left hn
    simp [execOp, hx, hy, binOp, eqGuard, Op.shift, h0, h1]
theorem negi (hx : ev σ x = .int .i64 a := by exact rfl) (hr : -9223372036854775808 ≤ 0 - a ∧ 0 - a ≤ 9223372036854775807 := by omega) : Sd P w0 B ⟨d, .unOp .neg T x, ty, pos, af, gd⟩ σ L ((.int .i64 (-a))) :=
  sp_val fun _ => by
    have := IntWalk.i64_in _ hr
    rw [Int.zero_sub] at this
    simp [execOp, hx, Op.unary, Op.intArith, this]
theorem cvw {k2 : IntKind} {t : TypeDesc} (hs : P.underlying T = some t) (hd : InT P u k2) (hx : ev σ x = .int k a := by exact rfl) : Sd P w0 B ⟨d, .convert T u x, ty, pos, af, gd⟩ σ L ((.int k2 (k2.wrap a))) :=
  sp_val fun _ => by
    unfold InT at hd
    simp [execOp, hx, convert, run_underlying hs, run_underlying hd, Conv.intToInt]
end
/-! truths -/
theorem noti {b : Bool} (hx : ev σ x = .bool b := by exact rfl) : Sd P w0 B ⟨d, .unOp .not T x, ty, pos, af, gd⟩ σ L ((.bool (!b))) := sp_val fun _ => by simp [execOp, hx, Op.unary]
theorem eqGuard_bool {op : BinOp} {a b : Bool} {w : World} : (eqGuard op T x y (.bool a) (.bool b)).run P w = .ok () w := by cases op <;> rfl
theorem run_equal_bool {a b : Bool} (hT : P.underlying T = some .bool) (w : World) : (Op.equal T (.bool a) (.bool b)).run P w = .ok (a == b) w := by
  have h : ∀ n, (Op.equalIn (n + 1) T (.bool a) (.bool b)).run P w = .ok (a == b) w := fun n => by simp [Op.equalIn, run_underlying hT]
  exact h 9999
theorem eqb {u : TypeId} {a b : Bool} (hT : P.underlying T = some .bool) (hx : ev σ x = .bool a := by exact rfl) (hy : ev σ y = .bool b := by exact rfl) : Sd P w0 B ⟨d, .binOp .eql T x y u, ty, pos, af, gd⟩ σ L ((.bool (a == b))) :=
  sp_val fun w => by simp [execOp, hx, hy, binOp, eqGuard_bool, run_equal_bool hT]
theorem neb {u : TypeId} {a b : Bool} (hT : P.underlying T = some .bool) (hx : ev σ x = .bool a := by exact rfl) (hy : ev σ y = .bool b := by exact rfl) : Sd P w0 B ⟨d, .binOp .neq T x y u, ty, pos, af, gd⟩ σ L ((.bool (!(a == b)))) :=
  sp_val fun w => by simp [execOp, hx, hy, binOp, eqGuard_bool, run_equal_bool hT]
/-- A choice: the first arm is taken. -/
theorem pkT {b : Bool} (hb : b = true) (hv : ev σ y = v) (hx : ev σ x = .bool b := by exact rfl) : Sd P w0 B ⟨d, .pick x y z, ty, pos, af, gd⟩ σ L (v) := sp_val fun _ => by simp [execOp, hx, hb, hv, asBool]
theorem pkF {b : Bool} (hb : b = false) (hv : ev σ z = v) (hx : ev σ x = .bool b := by exact rfl) : Sd P w0 B ⟨d, .pick x y z, ty, pos, af, gd⟩ σ L (v) := sp_val fun _ => by simp [execOp, hx, hb, hv, asBool]
theorem pkTb {b c : Bool} (hb : b = true) (hx : ev σ x = .bool b := by exact rfl) (hv : ev σ y = .bool c := by exact rfl) : Sd P w0 B ⟨d, .pick x y z, ty, pos, af, gd⟩ σ L ((.bool c)) := pkT hb hv hx
theorem pkFb {b c : Bool} (hb : b = false) (hx : ev σ x = .bool b := by exact rfl) (hv : ev σ z = .bool c := by exact rfl) : Sd P w0 B ⟨d, .pick x y z, ty, pos, af, gd⟩ σ L ((.bool c)) := pkF hb hv hx
/-! slices, fields, indexes -/
section
variable {A : Option Addr} {n c e s b off : Nat}
theorem lens (hT : SlT P T e s b) (hx : ev σ x = .slice A n c := by exact rfl) : Sd P w0 B ⟨d, .call { callee := .builtin .len, args := #[x], argTypes := #[T] }, ty, pos, af, gd⟩ σ L ((.int .i64 n)) :=
  sp_val fun _ => by simp [execOp, hx, resolve, invoke, builtin, Builtin.len_, run_underlying hT.1, goInt]
theorem caps (hT : SlT P T e s b) (hx : ev σ x = .slice A n c := by exact rfl) : Sd P w0 B ⟨d, .call { callee := .builtin .cap, args := #[x], argTypes := #[T] }, ty, pos, af, gd⟩ σ L ((.int .i64 c)) :=
  sp_val fun _ => by simp [execOp, hx, resolve, invoke, builtin, Builtin.cap_, run_underlying hT.1, goInt]
theorem mini {k : IntKind} {a a2 : Int} {ts : Array TypeId} (hx : ev σ x = .int k a := by exact rfl) (hy : ev σ y = .int k a2 := by exact rfl) : Sd P w0 B ⟨d, .call { callee := .builtin .min, args := #[x, y], argTypes := ts }, ty, pos, af, gd⟩ σ L ((.int k (if a2 < a then a2 else a))) :=
  sp_val fun _ => by simp [execOp, hx, hy, resolve, invoke, builtin, Builtin.min_, Builtin.min2]
theorem maxi {k : IntKind} {a a2 : Int} {ts : Array TypeId} (hx : ev σ x = .int k a := by exact rfl) (hy : ev σ y = .int k a2 := by exact rfl) : Sd P w0 B ⟨d, .call { callee := .builtin .max, args := #[x, y], argTypes := ts }, ty, pos, af, gd⟩ σ L ((.int k (if a < a2 then a2 else a))) :=
  sp_val fun _ => by simp [execOp, hx, hy, resolve, invoke, builtin, Builtin.max_, Builtin.max2]
theorem exti {vs : Array Value} {i : Nat} (hv : vs[i]? = some v := by exact rfl) (hx : ev σ x = .tuple vs := by exact rfl) : Sd P w0 B ⟨d, .extract x i, ty, pos, af, gd⟩ σ L (v) :=
  sp_val fun _ => by simp [execOp, hx, Instr.extract, hv]
theorem nlc {a : Addr} (hx : ev σ x = .pointer (some a) := by exact rfl) : Sd P w0 B ⟨d, .nilCheck x, ty, pos, af, gd⟩ σ L ((.pointer (some a))) := sp_val fun _ => by simp [execOp, hx]
theorem run_field {a : Addr} {i : Nat} (hT : FdT P T i off) (w : World) : (Instr.fieldAt T (.pointer (some a)) i).run P w = .ok (.pointer (some (a.add off))) w := by
  obtain ⟨s, hT⟩ := hT
  unfold fieldB at hT
  split at hT
  · rename_i fs hu
    cases hf : fs[i]? with
    | none => simp [hf] at hT
    | some f =>
      simp only [hf, Option.map_some, Option.some.injEq, Prod.mk.injEq] at hT
      obtain ⟨h1, h2⟩ := hT
      have h3 : (P.info? f.type).map (·.size) = some (s + 1) := by
        unfold Program.cellsOf at h2
        cases hi : P.info? f.type with
        | none => simp [hi] at h2
        | some i => simpa [hi] using h2
      simp [Instr.fieldAt, run_underlying hu, hf, Instr.sureAddr, fieldPlace, run_size h3, h1]
  · cases hT
theorem fda {a : Addr} {i : Nat} (hT : FdT P T i off) (hx : ev σ x = .pointer (some a) := by exact rfl) : Sd P w0 B ⟨d, .fieldAddr T x i, ty, pos, af, gd⟩ σ L ((.pointer (some (a.add off)))) :=
  sp_val fun w => by simp [execOp, hx, run_field hT]
/-- A field behind a place in a slice. -/
theorem fdp {k i : Nat} (hT : FdT P T i off) (hx : ev σ x = .pointer (some (ap A k)) := by exact rfl) : Sd P w0 B ⟨d, .fieldAddr T x i, ty, pos, af, gd⟩ σ L ((.pointer (some (ap A (k + off))))) := by
  rw [← ap_add]; exact fda hT hx
/-- A field in a block. -/
theorem fdl {g k i : Nat} (hT : FdT P T i off) (hx : ev σ x = .pointer (some ⟨g, k, none⟩) := by exact rfl) : Sd P w0 B ⟨d, .fieldAddr T x i, ty, pos, af, gd⟩ σ L ((.pointer (some ⟨g, k + off, none⟩))) := by
  rw [← add_lit_]; exact fda hT hx
theorem run_ixa {a : Addr} {k : IntKind} {ix : Int} (hT : ArT P T n e s) (h0 : 0 ≤ ix) (h1 : ix < n) (w : World) : (Instr.indexAt T (.pointer (some a)) (.int k ix)).run P w = .ok (.pointer (some (a.add (ix.toNat * s)))) w := by
  simp [Instr.indexAt, asIntOf, run_underlying hT.1, Instr.sureAddr, h0, h1, run_size hT.2]
theorem run_ixs {k : IntKind} {ix : Int} (hT : SlT P T e s b) (hA : A.isSome = true) (h0 : 0 ≤ ix) (h1 : ix < n) (w : World) : (Instr.indexAt T (.slice A n c) (.int k ix)).run P w = .ok (.pointer (some (ap A (ix.toNat * s)))) w := by
  obtain ⟨a, rfl⟩ := Option.isSome_iff_exists.1 hA
  have h3 : (P.info? e).map (·.size) = some s := by
    obtain ⟨i, hi, he⟩ := info_of hT.2
    simp only [Prod.mk.injEq] at he
    simp [hi, he.1]
  simp [Instr.indexAt, asIntOf, run_underlying hT.1, h0, h1, run_size h3, ap]
theorem ixs {k : IntKind} {ix : Int} (hT : SlT P T e s b) (hA : Som w0 B L A) (hx : ev σ x = .slice A n c := by exact rfl) (hy : ev σ y = .int k ix := by exact rfl) (h : 0 ≤ ix ∧ ix < n := by omega) :
    Sd P w0 B ⟨d, .indexAddr T x y, ty, pos, af, gd⟩ σ L ((.pointer (some (ap A (ix.toNat * s))))) := sp_read fun M w hh => by
  simp [execOp, hx, hy, run_ixs hT (hA M w hh) h.1 h.2]
/-- The same at a number that is a Nat. -/
theorem ixn {k : IntKind} {ix : Nat} (hT : SlT P T e s b) (hA : Som w0 B L A) (hx : ev σ x = .slice A n c := by exact rfl) (hy : ev σ y = .int k (ix : Int) := by exact rfl) (h : ix < n := by omega) :
    Sd P w0 B ⟨d, .indexAddr T x y, ty, pos, af, gd⟩ σ L ((.pointer (some (ap A (ix * s))))) := sp_read fun M w hh => by
  have := run_ixs (k := k) (ix := (ix : Int)) (n := n) (c := c) hT (hA M w hh) (by omega) (by omega) w
  rw [Int.toNat_natCast] at this
  simp [execOp, hx, hy, this]
theorem ixn1 {k : IntKind} {ix : Nat} (hT : SlT P T e 1 b) (hA : Som w0 B L A) (hx : ev σ x = .slice A n c := by exact rfl) (hy : ev σ y = .int k (ix : Int) := by exact rfl) (h : ix < n := by omega) :
    Sd P w0 B ⟨d, .indexAddr T x y, ty, pos, af, gd⟩ σ L ((.pointer (some (ap A ix)))) := by
  have := ixn (d := d) (ty := ty) (pos := pos) (af := af) (gd := gd) hT hA hx hy h
  rwa [Nat.mul_one] at this
theorem ixl1 {k : IntKind} {ix : Nat} {g : Nat} (hT : ArT P T n e 1) (hx : ev σ x = .pointer (some ⟨g, 0, none⟩) := by exact rfl) (hy : ev σ y = .int k (ix : Int) := by exact rfl) (h : ix < n := by omega) :
    Sd P w0 B ⟨d, .indexAddr T x y, ty, pos, af, gd⟩ σ L ((.pointer (some ⟨g, ix, none⟩))) := sp_val fun w => by
  have := run_ixa (k := k) (ix := (ix : Int)) (a := ⟨g, 0, none⟩) hT (by omega) (by omega) w
  rw [Int.toNat_natCast, add_lit_, Nat.zero_add, Nat.mul_one] at this
  simp [execOp, hx, hy, this]
theorem ixl {k : IntKind} {ix : Nat} {g off : Nat} (hT : ArT P T n e s) (hx : ev σ x = .pointer (some ⟨g, off, none⟩) := by exact rfl) (hy : ev σ y = .int k (ix : Int) := by exact rfl) (h : ix < n := by omega) :
    Sd P w0 B ⟨d, .indexAddr T x y, ty, pos, af, gd⟩ σ L ((.pointer (some ⟨g, off + ix * s, none⟩))) := sp_val fun w => by
  have := run_ixa (k := k) (ix := (ix : Int)) (a := ⟨g, off, none⟩) hT (by omega) (by omega) w
  rw [Int.toNat_natCast, add_lit_] at this
  simp [execOp, hx, hy, this]
theorem ixp {k : IntKind} {ix : Nat} {off : Nat} (hT : ArT P T n e s) (hx : ev σ x = .pointer (some (ap A off)) := by exact rfl) (hy : ev σ y = .int k (ix : Int) := by exact rfl) (h : ix < n := by omega) :
    Sd P w0 B ⟨d, .indexAddr T x y, ty, pos, af, gd⟩ σ L ((.pointer (some (ap A (off + ix * s))))) := sp_val fun w => by
  have := run_ixa (k := k) (ix := (ix : Int)) (a := ap A off) hT (by omega) (by omega) w
  rw [Int.toNat_natCast, ap_add] at this
  simp [execOp, hx, hy, this]
end
/-! loads -/
theorem ld {p : Addr} (hT : OneT P T) (hr : Rd w0 B L p v) (hx : ev σ x = .pointer (some p) := by exact rfl) : Sd P w0 B ⟨d, .load T x, ty, pos, af, gd⟩ σ L (v) := sp_read fun M w hh => by
  simp [execOp, hx, Instr.loadAt, Instr.sureAddr, loadVar, run_isAgg_one hT, hr M w hh]
theorem run_loadVar_agg {n : Nat} {p : Addr} {cs : List Value} (hT : AggT P T n) (hl : cs.length = n) {w : World} (hc : ∀ j u, cs[j]? = some u → w.cell? (p.add j) = some u) : (loadVar T p).run P w = .ok (.agg cs.toArray) w := by
  have h := run_loadCells_list (P := P) w p cs hc
  subst hl
  simp [loadVar, run_isAgg_agg hT, run_size hT.2, h]
theorem lda {n : Nat} {p : Addr} {cs : List Value} (hT : AggT P T n) (hl : cs.length = n) (hr : ∀ j u, cs[j]? = some u → Rd w0 B L (p.add j) u) (hx : ev σ x = .pointer (some p) := by exact rfl) : Sd P w0 B ⟨d, .load T x, ty, pos, af, gd⟩ σ L ((.agg cs.toArray)) := sp_read fun M w hh => by
  simp [execOp, hx, Instr.loadAt, Instr.sureAddr, run_loadVar_agg hT hl (fun j u hu => hr j u hu M w hh)]
/-- A whole block read as one value. -/
theorem ldw {i g n : Nat} {cs : Array Value} {e : TypeId} {fz : Nat × Nat} (hT : AggT P T n) (hi : L[i]? = some (blk g (.cells cs e fz))) (hl : cs.size = n) (hx : ev σ x = .pointer (some ⟨g, 0, none⟩) := by exact rfl) :
    Sd P w0 B ⟨d, .load T x, ty, pos, af, gd⟩ σ L ((.agg cs)) := by
  have := lda (x := x) (d := d) (ty := ty) (pos := pos) (af := af) (gd := gd) (w0 := w0) (B := B) (σ := σ) (L := L) (cs := cs.toList) hT (by simpa using hl) (fun j u hu => by
    rw [add_lit_]; exact Rd.blk hi (by simpa using hu)) hx
  simpa using this
end

/-! ### What makes blocks, and what writes -/
section
variable {P : Program} {w0 : World} {B : Nat} {σ : Env} {L : List Res} {d : Option Nat} {ty T : TypeId} {pos : String} {af : Array Edge} {gd : Option (Nat × Bool)} {x y z : Operand} {v : Value}
/-- A new block, and a pointer to it. -/
def NewP (o : Obj) (L : List Res) : Value → List Res → Prop := fun v L' => ∃ g, v = .pointer (some ⟨g, 0, none⟩) ∧ L' = blk g o :: L
theorem Hp.newBlk {M : List Res} {w : World} (h : Hp w0 B (M ++ L) w) (o : Obj) : Hp w0 B (M ++ (blk w.heap.size o :: L)) (w.alloc o) :=
  h.add (T := [blk w.heap.size o]) (Stp.alloc w o) (by intro r hr; simp at hr; subst hr; exact World.alloc_heap_new w o) (by intro r hr k hk; simp at hr; subst hr; cases hk; simp) (by simp)
theorem alc {zv : Value} (hz : ZrT P T zv) : Sp P w0 B ⟨d, .alloc T, ty, pos, af, gd⟩ σ L (NewP (.cells zv.cells T) L) := fun M w hh => by
  refine .inl ⟨.pointer (some ⟨w.heap.size, 0, none⟩), w.alloc (.cells zv.cells T), ?_, blk w.heap.size (.cells zv.cells T) :: L, hh.newBlk _, w.heap.size, rfl, rfl⟩
  simp [execOp, Instr.alloc, run_zero hz, newVar, newRow]
theorem bx (hx : ev σ x = v) : Sp P w0 B ⟨d, .box T x, ty, pos, af, gd⟩ σ L (NewP (.cells v.cells T) L) := fun M w hh => by
  refine .inl ⟨.pointer (some ⟨w.heap.size, 0, none⟩), w.alloc (.cells v.cells T), ?_, blk w.heap.size (.cells v.cells T) :: L, hh.newBlk _, w.heap.size, rfl, rfl⟩
  simp [execOp, Instr.box, newVar, newRow, hx]
theorem bxi {k : IntKind} {a : Int} (hx : ev σ x = .int k a := by exact rfl) : Sp P w0 B ⟨d, .box T x, ty, pos, af, gd⟩ σ L (NewP (.cells #[.int k a] T) L) := bx hx
theorem bxb {b : Bool} (hx : ev σ x = .bool b := by exact rfl) : Sp P w0 B ⟨d, .box T x, ty, pos, af, gd⟩ σ L (NewP (.cells #[.bool b] T) L) := bx hx
theorem bxg {cs : Array Value} (hx : ev σ x = .agg cs := by exact rfl) : Sp P w0 B ⟨d, .box T x, ty, pos, af, gd⟩ σ L (NewP (.cells cs T) L) := bx hx
theorem bxs {A : Option Addr} {n c : Nat} (hx : ev σ x = .slice A n c := by exact rfl) : Sp P w0 B ⟨d, .box T x, ty, pos, af, gd⟩ σ L (NewP (.cells #[.slice A n c] T) L) := bx hx
theorem bxf {f : Fn} {a b : Array Value} (hx : ev σ x = .func f a b := by exact rfl) : Sp P w0 B ⟨d, .box T x, ty, pos, af, gd⟩ σ L (NewP (.cells #[.func f a b] T) L) := bx hx
theorem bxm {r : Option Nat} (hx : ev σ x = .map r := by exact rfl) : Sp P w0 B ⟨d, .box T x, ty, pos, af, gd⟩ σ L (NewP (.cells #[.map r] T) L) := bx hx
theorem bxp {r : Option Addr} (hx : ev σ x = .pointer r := by exact rfl) : Sp P w0 B ⟨d, .box T x, ty, pos, af, gd⟩ σ L (NewP (.cells #[.pointer r] T) L) := bx hx
theorem size_one {n : Nat} (hs : (P.info? T).map (·.size) = some n) (w : World) : (sizeOf T).run P w = .ok n w := run_size hs w
theorem setCell_blk {w : World} {g k : Nat} {cs : Array Value} {e : TypeId} {fz : Nat × Nat} (h : w.heap[g]? = some (.cells cs e fz)) : (w.setCell ⟨g, k, none⟩ v).heap[g]? = some (.cells (cs.setIfInBounds k v) e fz) := by
  simp [World.setCell, Array.getElem?_modify, h]
theorem Hp.setBlk {M : List Res} {w : World} {i g k : Nat} {cs : Array Value} {e : TypeId} {fz : Nat × Nat} (h : Hp w0 B (M ++ L) w) (hi : L[i]? = some (blk g (.cells cs e fz))) : Hp w0 B (M ++ L.set i (blk g (.cells (cs.setIfInBounds k v) e fz))) (w.setCell ⟨g, k, none⟩ v) :=
  h.set hi (Stp.setCell w ⟨g, k, none⟩ v) (setCell_blk (h.at_ hi)) (fun _ hk => .inl hk)
/-- One cell of a block of one's own is written. -/
theorem sto {i g k : Nat} {cs : Array Value} {e : TypeId} (hT : AggT P T 1 ∨ (P.info? T).map (·.size) = some 1) (h1 : v.cells = #[v]) (ho : v.oneCell' = true) (hi : L[i]? = some (blk g (.cells cs e))) (hk : k < cs.size) (hy : ev σ y = v) (hx : ev σ x = .pointer (some ⟨g, k, none⟩) := by exact rfl) :
    Sp P w0 B ⟨d, .store T x y, ty, pos, af, gd⟩ σ L (det undef (L.set i (blk g (.cells (cs.setIfInBounds k v) e)))) := fun M w hh => by
  have hs : (P.info? T).map (·.size) = some 1 := by rcases hT with h | h; exact h.2; exact h
  have hb : w.heap[g]? = some (.cells cs e (0, 0)) := hh.at_ hi
  have hc : w.cell? ⟨g, k, none⟩ = some cs[k] := by rw [cell_of_row w g k cs e (0, 0) hb]; simp [hk]
  have hf : w.frozen? ⟨g, k, none⟩ = false := by simp [World.frozen?, hb]
  refine .inr (.inl ⟨w.setCell ⟨g, k, none⟩ v, ?_, _, hh.setBlk hi, rfl, rfl⟩)
  simp [execOp, hx, hy, Instr.storeAt, Instr.sureAddr, storeVar, h1, run_size hs, storeCells, run_store P w _ v _ ho, add_lit_, hc, hf]
theorem run_storeCells_all {g : Nat} {e : TypeId} : ∀ (vs : List Value) (k i : Nat) (cs : Array Value) (w : World), w.heap[g]? = some (.cells cs e (0, 0)) → k + i + vs.length ≤ cs.size → (∀ u ∈ vs, u.oneCell' = true) →
    ∃ w', (storeCells ⟨g, k, none⟩ vs i).run P w = .ok () w' ∧ Stp (fun b => b = g) w w' ∧ w'.heap[g]? = some (.cells ((cs.toList.take (k + i) ++ vs ++ cs.toList.drop (k + i + vs.length)).toArray) e (0, 0))
  | [], k, i, cs, w, hg, _, _ => ⟨w, by simp [storeCells], Stp.refl _ _, by simpa using hg⟩
  | u :: vs, k, i, cs, w, hg, hl, h1 => by
    simp only [List.length_cons] at hl
    have hk : k + i < cs.size := by omega
    have hc : w.cell? ⟨g, k + i, none⟩ = some cs[k + i] := by rw [cell_of_row w g (k + i) cs e (0, 0) hg]; simp [hk]
    have hf : w.frozen? ⟨g, k + i, none⟩ = false := by simp [World.frozen?, hg]
    obtain ⟨w', hr, hst, hb⟩ := run_storeCells_all vs k (i + 1) (cs.setIfInBounds (k + i) u) (w.setCell ⟨g, k + i, none⟩ u) (setCell_blk hg) (by simp; omega) (fun a ha => h1 a (by simp [ha]))
    refine ⟨w', ?_, (Stp.setCell w ⟨g, k + i, none⟩ u).trans hst, ?_⟩
    · simp [storeCells, run_store P w _ u _ (h1 u (by simp)), add_lit_, hc, hf, hr]
    · rw [hb]
      congr 2
      apply Array.ext'
      simp only [Array.toList_setIfInBounds]
      have e1 : (cs.toList.set (k + i) u).take (k + (i + 1)) = cs.toList.take (k + i) ++ [u] := by
        rw [show k + (i + 1) = (k + i) + 1 from by omega, List.take_succ_eq_append_getElem (by simp; omega)]
        simp [List.take_set_of_le]
      have e2 : (cs.toList.set (k + i) u).drop (k + (i + 1) + vs.length) = cs.toList.drop (k + i + (vs.length + 1)) := by
        rw [List.drop_set_of_lt (by omega)]
        congr 1
        omega
      rw [e1, e2]
      simp
/-- A value of several cells is written into a block of one's own. -/
theorem sta {i g k n : Nat} {cs vs : Array Value} {e : TypeId} (hT : (P.info? T).map (·.size) = some n) (hn : vs.size = n) (h1 : ∀ u ∈ vs.toList, u.oneCell' = true) (hi : L[i]? = some (blk g (.cells cs e))) (hk : k + n ≤ cs.size) (hy : ev σ y = .agg vs := by exact rfl) (hx : ev σ x = .pointer (some ⟨g, k, none⟩) := by exact rfl) :
    Sp P w0 B ⟨d, .store T x y, ty, pos, af, gd⟩ σ L (det undef (L.set i (blk g (.cells ((cs.toList.take k ++ vs.toList ++ cs.toList.drop (k + n)).toArray) e)))) := fun M w hh => by
  obtain ⟨w', hr, hst, hb⟩ := run_storeCells_all (P := P) (g := g) (e := e) vs.toList k 0 cs w (hh.at_ hi) (by simp; omega) h1
  simp only [Nat.add_zero, Array.length_toList, hn] at hb
  refine .inr (.inl ⟨w', ?_, _, hh.set (r' := blk g (.cells ((cs.toList.take k ++ vs.toList ++ cs.toList.drop (k + n)).toArray) e)) hi hst hb (fun _ hk => .inl hk), rfl, rfl⟩)
  simp only [execOp, hx, hy, Instr.storeAt, Instr.sureAddr, storeVar, Value.cells, Sem.run_bind, Sem.run_pure, Result.andThen_ok, run_size hT, hn, ne_eq, not_true_eq_false, if_false, Sem.run_ite]
  rw [hr]
  rfl
/-- The same, the whole block. -/
theorem stw {i g n : Nat} {cs vs : Array Value} {e : TypeId} (hT : (P.info? T).map (·.size) = some n) (hn : vs.size = n) (h1 : ∀ u ∈ vs.toList, u.oneCell' = true) (hi : L[i]? = some (blk g (.cells cs e))) (hc : cs.size = n) (hy : ev σ y = .agg vs := by exact rfl) (hx : ev σ x = .pointer (some ⟨g, 0, none⟩) := by exact rfl) :
    Sp P w0 B ⟨d, .store T x y, ty, pos, af, gd⟩ σ L (det undef (L.set i (blk g (.cells vs e)))) := by
  have h := sta (P := P) (w0 := w0) (B := B) (σ := σ) (L := L) (d := d) (ty := ty) (pos := pos) (af := af) (gd := gd) (k := 0) hT hn h1 hi (by omega) hy hx
  have he : (cs.toList.take 0 ++ vs.toList ++ cs.toList.drop (0 + n)).toArray = vs := by
    have : cs.toList.drop n = [] := List.drop_eq_nil_of_le (by simp; omega)
    simp [this]
  rwa [he] at h
end
end Go.Proofs.Ytbcnejobnmljlaa
