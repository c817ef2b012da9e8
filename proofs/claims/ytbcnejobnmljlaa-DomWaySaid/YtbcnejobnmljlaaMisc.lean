/- Further rules: parts of tuples, conversions with known results, copy, appending to what is new. Over any program. -/
import Derived.Test.YtbcnejobnmljlaaApp
namespace Go.Proofs.Ytbcnejobnmljlaa
set_option linter.unusedVariables false
open Go Go.RowKit

theorem extv {P : Program} {w0 : World} {B : Nat} {σ : Env} {L : List Res} {d : Option Nat} {ty : TypeId} {pos : String} {af : Array Edge} {gd : Option (Nat × Bool)} {x : Operand} {v : Value} {vs : Array Value} {i : Nat} (hx : ev σ x = .tuple vs := by exact rfl) (hv : vs[i]? = some v := by exact rfl) : Sd P w0 B ⟨d, .extract x i, ty, pos, af, gd⟩ σ L (v) := exti hv hx
theorem cvx {P : Program} {w0 : World} {B : Nat} {σ : Env} {L : List Res} {d : Option Nat} {ty T u : TypeId} {pos : String} {af : Array Edge} {gd : Option (Nat × Bool)} {x : Operand} {k k2 : IntKind} {a r : Int} {t : TypeDesc} (hs : P.underlying T = some t) (hd : InT P u k2) (hr : k2.wrap a = r) (hx : ev σ x = .int k a := by exact rfl) : Sd P w0 B ⟨d, .convert T u x, ty, pos, af, gd⟩ σ L ((.int k2 r)) := by
  rw [← hr]; exact cvw hs hd hx
theorem cpb {P : Program} {w0 : World} {B : Nat} {σ : Env} {L : List Res} {d : Option Nat} {ty T T2 : TypeId} {pos : String} {af : Array Edge} {gd : Option (Nat × Bool)} {x y : Operand} {i g off n c e s b m c2 q : Nat} {A2 : Option Addr} {cs : Array Value} {ys : List Value} (hT : SlT P T e s b) (hi : L[i]? = some (blk g (.cells cs e))) (hsrc : Src w0 B L A2 m s ys) (h1 : ∀ u ∈ ys, u.oneCell' = true) (hq : q = Nat.min m n) (hfit : off + q * s ≤ cs.size)
    (hx : ev σ x = .slice (some ⟨g, off, none⟩) n c := by exact rfl) (hy : ev σ y = .slice A2 m c2 := by exact rfl) :
    Sp P w0 B ⟨d, .call { callee := .builtin .copy, args := #[x, y], argTypes := #[T, T2] }, ty, pos, af, gd⟩ σ L (det (.int .i64 q) (L.set i (blk g (.cells ((cs.toList.take off ++ ys.take (q * s) ++ cs.toList.drop (off + q * s)).toArray) e)))) := fun M w hh => by
  obtain ⟨inf, hi1, he⟩ := info_of hT.2
  simp only [Prod.mk.injEq] at he
  have hlen := hsrc.1
  have hqm : q ≤ m := by rw [hq]; exact Nat.min_le_left _ _
  have hys : (ys.take (q * s)).length = q * s := by
    rw [List.length_take, hlen]
    exact Nat.min_eq_left (Nat.mul_le_mul_right _ hqm)
  have hc : (Builtin.firstCells inf.size q (.slice A2 m c2)).run P w = .ok (ys.take (q * s)).toArray w := by
    rcases hsrc.2 M w hh with ⟨rfl, rfl⟩ | ⟨a, rfl, hcell⟩
    · have : q = 0 := by omega
      subst this
      rw [run_firstCells_none]; simp
    · refine run_firstCells_some (P := P) w inf.size q a m c2 _ (by rw [hys, he.1]) fun j v hj => ?_
      rw [List.getElem?_take] at hj
      split at hj
      · exact hcell j v hj
      · cases hj
  obtain ⟨w', hr, hst, hb⟩ := run_storeCells_all (P := P) (g := g) (e := e) (ys.take (q * s)) off 0 cs w (hh.at_ hi) (by rw [hys]; omega) (fun u hu => h1 u (List.mem_of_mem_take hu))
  rw [hys] at hb
  simp only [Nat.add_zero] at hb
  refine .inl ⟨.int .i64 q, w', ?_, _, hh.set (r' := blk g (.cells ((cs.toList.take off ++ ys.take (q * s) ++ cs.toList.drop (off + q * s)).toArray) e)) hi hst hb (fun _ hk => .inl hk), rfl, rfl⟩
  simp only [execOp, resolve, invoke, builtin, Sem.run_bind, Sem.run_pure, Result.andThen_ok, List.map_toArray, List.map_cons, List.map_nil, hx, hy]
  have hsz : (sizeOf e).run P w = .ok inf.size w := run_size (by simp [hi1]) w
  have : (Builtin.copy_ #[T, T2] ty #[.slice (some ⟨g, off, none⟩) n c, .slice A2 m c2]).run P w = .ok (.int .i64 q) w' := by
    simp only [Builtin.copy_]
    simp only [Sem.run_bind, run_underlying hT.1, Result.andThen_ok, Builtin.lenOf, Sem.run_pure, hsz, List.getElem?_toArray, List.getElem?_cons_zero, List.getElem?_cons_succ]
    rw [← hq, hc]
    simp only [Result.andThen_ok]
    rw [hr]
    rfl
  rw [this]
  rfl
theorem Grow.adds {P : Program} {w0 : World} {B : Nat} {σ : Env} {r : Res} {L : List Res} {o : Oper} {e s n : Nat} {xs : List Value} (h : Sp P w0 B o σ (r :: L) (Grow 0 e s n xs (r :: L))) : Sp P w0 B o σ (r :: L) (Adds (NewL e s n xs) L) := fun M w hh =>
  Goes.mono (h M w hh) fun v w' ⟨L', h1, A, c, h2, h3⟩ => ⟨L', h1, [row (.slice A n c) e s n xs], h3, A, c, h2, rfl⟩
theorem ap0 {P : Program} {w0 : World} {B : Nat} {σ : Env} {L : List Res} {d : Option Nat} {ty T : TypeId} {pos : String} {af : Array Edge} {gd : Option (Nat × Bool)} {x y : Operand} {e s b c m c2 : Nat} {A A2 : Option Addr} {ys : List Value} {zv : Value} (hT : SlT P T e s b) (hz : ZrT P e zv) (hzs : zv.cells.size = s) (hs0 : 0 < s) (hsrc : Src w0 B (row (.slice A 0 c) e s 0 [] :: L) A2 m s ys)
    (h1 : ∀ u ∈ ys, u.oneCell' = true) (hml : m ≤ maxLen) (hby : m * b ≤ 140737488355328) (hx : ev σ x = .slice A 0 c := by exact rfl) (hy : ev σ y = .slice A2 m c2 := by exact rfl) :
    Sp P w0 B ⟨d, .call { callee := .builtin .append, args := #[x, y], argTypes := #[T, T] }, ty, pos, af, gd⟩ σ (row (.slice A 0 c) e s 0 [] :: L) (Adds (NewL e s m ys) L) := by
  have := Grow.adds (apn (d := d) (ty := ty) (pos := pos) (af := af) (gd := gd) (i := 0) (n := 0) (m := m) (L := row (.slice A 0 c) e s 0 [] :: L) hT hz hzs hs0 rfl hsrc h1 (by omega) (by rw [Nat.zero_add]; exact hby) hx hy)
  rw [Nat.zero_add, List.nil_append] at this
  exact this
/-- One that was there has been turned. -/
def Trn (v : Value) (r : Res) : Value → List Res → Prop := fun v' R => v' = v ∧ R = [r]
theorem det.trn {P : Program} {w0 : World} {B : Nat} {σ : Env} {r r' : Res} {L : List Res} {o : Oper} {v : Value} (h : Sp P w0 B o σ (r :: L) (det v (r' :: L))) : Sp P w0 B o σ (r :: L) (Adds (Trn v r') L) := fun M w hh =>
  Goes.mono (h M w hh) fun v w' ⟨L', h1, h2, h3⟩ => ⟨L', h1, [r'], h3, h2, rfl⟩
end Go.Proofs.Ytbcnejobnmljlaa
