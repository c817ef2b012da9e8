/- slices.Repeat of one number, walked; the rule of copy. -/
import Derived.Test.YtbcnejobnmljlaaDfs
import Derived.Test.YtbcnejobnmljlaaWord
import Derived.Test.YtbcnejobnmljlaaMisc
import Derived.Test.YtbcnejobnmljlaaDrawT
namespace Go.Proofs.Ytbcnejobnmljlaa
set_option linter.unusedVariables false
open Go Go.RowKit
set_option maxRecDepth 100000

section
theorem and_mask {n : Nat} (h : n < 2 ^ 32) : n &&& 4294967295 = n := by
  have := Nat.and_two_pow_sub_one_eq_mod n 32
  rw [Nat.mod_eq_of_lt h] at this
  exact this
theorem bits_Mul64_one {w : World} {n : Nat} (h : n < 2 ^ 32) : Ct Try.prog 42 #[.int .u64 (1 : Nat), .int .u64 (n : Int)] w (Is (.tuple #[.int .u64 0, .int .u64 (n : Int)])) := by
  have e32 : n / 2 ^ 32 = 0 := Nat.div_eq_of_lt h
  have hm := and_mask h
  refine Ct.mk Try.func42 rfl rfl ?_
  refine Cd.seq ?_
  refine Cd.region ?_
  refine Ol.p asi ?_
  refine Ol.p asi ?_
  refine Ol.nil ?_
  refine Cd.seq ?_
  refine Cd.region ?_
  refine Ol.p mvi ?_
  refine Ol.p (andu (a := 1) (b := 4294967295)) ?_
  refine Ol.p asi ?_
  refine Ol.nil ?_
  refine Cd.seq ?_
  refine Cd.region ?_
  refine Ol.p mvi ?_
  refine Ol.p (shru (a := 1) (n := 32)) ?_
  refine Ol.p asi ?_
  refine Ol.nil ?_
  refine Cd.seq ?_
  refine Cd.region ?_
  refine Ol.p mvi ?_
  refine Ol.p (andu (a := n) (b := 4294967295)) ?_
  refine Ol.p asi ?_
  refine Ol.nil ?_
  refine Cd.seq ?_
  refine Cd.region ?_
  refine Ol.p mvi ?_
  refine Ol.p (shru (a := n) (n := 32)) ?_
  refine Ol.p asi ?_
  refine Ol.nil ?_
  rw [hm, e32]
  refine Cd.seq ?_
  refine Cd.region ?_
  refine Ol.p mvi ?_
  refine Ol.p mvi ?_
  refine Ol.p (mlu (a := 1) (b := n)) ?_
  refine Ol.p asi ?_
  refine Ol.nil ?_
  have e1 : 1 * n % 2 ^ 64 = n := by omega
  rw [e1]
  refine Cd.seq ?_
  refine Cd.region ?_
  refine Ol.p mvi ?_
  refine Ol.p mvi ?_
  refine Ol.p (mlu (a := 0) (b := n)) ?_
  refine Ol.p mvi ?_
  refine Ol.p (shru (a := n) (n := 32)) ?_
  refine Ol.p (adu (a := 0 * n % 2 ^ 64) (b := n / 2 ^ 32)) ?_
  refine Ol.p asi ?_
  refine Ol.nil ?_
  have e2 : (0 * n % 2 ^ 64 + n / 2 ^ 32) % 2 ^ 64 = 0 := by rw [e32]; simp
  rw [e2]
  refine Cd.seq ?_
  refine Cd.region ?_
  refine Ol.p mvi ?_
  refine Ol.p (andu (a := 0) (b := 4294967295)) ?_
  refine Ol.p asi ?_
  refine Ol.nil ?_
  refine Cd.seq ?_
  refine Cd.region ?_
  refine Ol.p mvi ?_
  refine Ol.p (shru (a := 0) (n := 32)) ?_
  refine Ol.p asi ?_
  refine Ol.nil ?_
  refine Cd.seq ?_
  refine Cd.region ?_
  refine Ol.p mvi ?_
  refine Ol.p mvi ?_
  refine Ol.p mvi ?_
  refine Ol.p (mlu (a := 1) (b := 0)) ?_
  refine Ol.p (adu (a := 0) (b := 0)) ?_
  refine Ol.p asi ?_
  refine Ol.nil ?_
  refine Cd.seq ?_
  refine Cd.region ?_
  refine Ol.p mvi ?_
  refine Ol.p mvi ?_
  refine Ol.p (mlu (a := 0) (b := 0)) ?_
  refine Ol.p mvi ?_
  refine Ol.p (adu (a := 0) (b := 0)) ?_
  refine Ol.p mvi ?_
  refine Ol.p (shru (a := 0) (n := 32)) ?_
  refine Ol.p (adu (a := 0) (b := 0)) ?_
  refine Ol.p asi ?_
  refine Ol.nil ?_
  refine Cd.seq ?_
  refine Cd.region ?_
  refine Ol.p mvi ?_
  refine Ol.p mvi ?_
  refine Ol.p (mlu (a := 1) (b := n)) ?_
  refine Ol.p asi ?_
  refine Ol.nil ?_
  rw [e1]
  exact Cd.ret ⟨_, ret2 rfl rfl rfl, [], .nil, rfl, rfl⟩
theorem bits_Mul_one {w : World} {n : Nat} (hn : n < 2 ^ 32) : Ct Try.prog 35 #[.int .u64 (1 : Nat), .int .u64 (n : Int)] w (Is (.tuple #[.int .u64 0, .int .u64 (n : Int)])) := by
  refine Ct.mk Try.func35 rfl rfl ?_
  refine Cd.seq ?_
  refine Cd.region ?_
  refine Ol.p asi ?_
  refine Ol.p asi ?_
  refine Ol.nil ?_
  refine Cd.seq ?_
  refine Cd.cond rfl (fun h => by cases h) (fun h => ?_)
  refine Cd.skip ?_
  refine Cd.seq ?_
  refine Cd.region ?_
  refine Ol.p mvi ?_
  refine Ol.p mvi ?_
  refine Ol.s (cl en_math_bits_Mul64 (fun M w' hh => bits_Mul64_one hn)) ?_
  refine Ol.p mvt ?_
  refine Ol.p extv ?_
  refine Ol.p extv ?_
  refine Ol.p asi ?_
  refine Ol.p asi ?_
  refine Ol.nil ?_
  refine Cd.seq ?_
  refine Cd.region ?_
  refine Ol.p mvi ?_
  refine Ol.p mvi ?_
  refine Ol.p asi ?_
  refine Ol.p asi ?_
  refine Ol.nil ?_
  exact Cd.ret ⟨_, ret2 rfl rfl rfl, [], .nil, rfl, rfl⟩
end
section
def RepV (e n : Nat) (z : Int) : Value → List Res → Prop := fun v R => ∃ g, v = .slice (some ⟨g, 0, none⟩) n n ∧ R = [blk g (.cells (Array.replicate n (.int .i64 z)) e)]
set_option maxHeartbeats 1000000 in
theorem slices_Repeat_one {w : World} {A : Option Addr} {c n : Nat} {z : Int} (hr : Reads w w.heap.size 1 A 1 [.int .i64 z]) (hn0 : 0 < n) (hn : n < 2 ^ 30) : Ct Try.prog 27 #[.slice A 1 c, .int .i64 n] w (RepV 3 n z) := by
  refine Ct.mk Try.func27 rfl rfl ?_
  refine Cd.seq ?_
  refine Cd.region ?_
  refine Ol.p ass ?_
  refine Ol.nil ?_
  refine Cd.seq ?_
  refine Cd.seq ?_
  refine Cd.region ?_
  refine Ol.p mvi ?_
  refine Ol.p lsi ?_
  refine Ol.nil ?_
  refine Cd.cond rfl (fun h => ?_) (fun h => ?_)   -- $10
  · simp at h
    omega
  refine Cd.skip ?_
  have e1 : IntKind.u64.wrap ((1 : Nat) : Int) = ((1 : Nat) : Int) := wrapu (by decide)
  have en : IntKind.u64.wrap (n : Int) = (n : Int) := wrapu (by omega)
  have en2 : IntKind.i64.wrap (n : Int) = (n : Int) := wrapi (by omega)
  refine Cd.seq ?_
  refine Cd.region ?_
  refine Ol.p mvs ?_
  refine Ol.p (lens sl_L_int) ?_
  refine Ol.p (cvx in_int in_uint e1) ?_
  refine Ol.p mvi ?_
  refine Ol.p (cvx in_int in_uint en) ?_
  refine Ol.s (cl en_math_bits_Mul (fun M w' hh => bits_Mul_one (n := n) (by omega))) ?_
  refine Ol.p mvt ?_
  refine Ol.p extv ?_
  refine Ol.p extv ?_
  refine Ol.p asi ?_
  refine Ol.p asi ?_
  refine Ol.nil ?_
  refine Cd.seq ?_
  refine Cd.seq ?_
  refine Cd.region ?_
  refine Ol.p mvi ?_
  refine Ol.p gti ?_
  refine Ol.p mvb ?_
  refine Ol.gp rfl mvi ?_
  refine Ol.gp rfl gti ?_
  refine Ol.p (pkFb rfl) ?_
  refine Ol.nil ?_
  refine Cd.cond rfl (fun h => ?_) (fun h => ?_)   -- $26
  · simp at h
    omega
  refine Cd.skip ?_
  refine Cd.seq ?_
  refine Cd.region ?_
  refine Ol.p mvi ?_
  refine Ol.p (cvx in_uint in_int en2) ?_
  refine Ol.x (mks sl_L_int zr_int) ?_
  rintro _ _ ⟨gN, rfl, rfl⟩
  refine Ol.p ass ?_
  refine Ol.nil ?_
  refine Cd.unrow fun cs hcs hcs2 => ?_
  have hcn : cs.size = n := by omega
  refine Cd.seq ?_
  refine Cd.region ?_
  refine Ol.p mvs ?_
  refine Ol.p mvs ?_
  refine Ol.s (cpb (i := 0) (off := 0) (n := n) (m := 1) (q := 1) sl_L_int rfl (Src.slc hr) (by intro u hu; simp at hu; subst hu; rfl) (by show 1 = Nat.min 1 n; exact (Nat.min_eq_left hn0).symm) (by omega)) ?_
  refine Ol.p asi ?_
  refine Ol.nil ?_
  refine Cd.seq ?_
  refine Cd.block ?_   -- 0
  refine Cd.loop (fun m σ L => ∃ (q : Nat) (cs : Array Value), m = n - q ∧ 1 ≤ q ∧ q ≤ n ∧ Has σ [(7, .slice (some ⟨gN, 0, none⟩) n n), (8, .int .i64 q)] ∧ L = [blk gN (.cells cs 3)] ∧ cs.size = n ∧ cs.toList.take q = List.replicate q (.int .i64 z)) (n := n - 1) ⟨1, _, rfl, Nat.le_refl _, hn0, ⟨rfl, rfl, trivial⟩, rfl, ?_, ?_⟩ ?_
  · simp [hcn]
    omega
  · simp
  rintro _ σ L ⟨q, cs, rfl, hq1, hqn, hs, rfl, hcn, hcp⟩
  refine Cd.has hs ?_
  refine Cd.seq ?_
  refine Cd.seq ?_
  refine Cd.region ?_
  refine Ol.p mvi ?_
  refine Ol.p mvs ?_
  refine Ol.p (lens sl_L_int) ?_
  refine Ol.p lsi ?_
  refine Ol.nil ?_
  refine Cd.cond rfl (fun h => ?_) (fun h => ?_)   -- $37
  · have hlt : q < n := by simpa using h
    obtain ⟨mn, hmn⟩ : ∃ mn, mn = Nat.min q (n - q) := ⟨_, rfl⟩
    have hmin : mn ≤ q := by rw [hmn]; exact Nat.min_le_left _ _
    have hmin2 : mn ≤ n - q := by rw [hmn]; exact Nat.min_le_right _ _
    have hmin3 : 1 ≤ mn := by
      rw [hmn]
      show 1 ≤ min q (n - q)
      omega
    have hsrc : Src w w.heap.size [blk gN (.cells cs 3)] (some ⟨gN, 0, none⟩) q 1 (List.replicate q (Value.int .i64 z)) := by
      rw [← hcp]
      refine ⟨by simp; omega, fun M w2 hh => .inr ⟨_, rfl, fun j u hu => ?_⟩⟩
      rw [List.getElem?_take] at hu
      split at hu
      · have hb : w2.heap[gN]? = some (.cells cs 3) := hh.has (blk gN (.cells cs 3)) (by simp)
        rw [add_lit_, Nat.zero_add, cell_of_row w2 gN _ cs _ _ hb]
        simpa using hu
      · cases hu
    refine Cd.skip ?_
    refine Cd.block ?_   -- 1
    refine Cd.drawT (L0 := []) mixed 9 (fun opNo => match opNo with | 7 => some (Trn (.int .i64 mn) (blk gN (.cells ((cs.toList.take (0 + q * 1) ++ (List.replicate q (Value.int .i64 z)).take (mn * 1) ++ cs.toList.drop (0 + q * 1 + mn * 1)).toArray) 3))) | 1000 => some ((fun v R => v = undef ∧ R = [blk gN (.cells cs 3)])) | _ => none) (fun opNo => match opNo with | 7 => [1000] | _ => []) (fun opNo => match opNo with | 7 => some 1000 | _ => none) [1000] (fun tokNo => match tokNo with | 1000 => [blk gN (.cells cs 3)] | _ => []) (by kernel_rfl) (.refl _) (by intro c hc; simp only [List.mem_cons, List.not_mem_nil, or_false] at hc; rcases hc with rfl <;> rfl) (by intro q V h; split at h <;> cases h; exact ⟨_, _, rfl, rfl⟩; exact ⟨_, _, rfl, rfl⟩) (fun u hu hu0 => ?_)
    refine WkT.p mvi ?_
    refine WkT.p mvs ?_
    refine WkT.p mvi ?_
    refine WkT.p (slo (l := q) sl_L_int (by omega) (by omega)) ?_
    refine WkT.p mvs ?_
    refine WkT.p mvi ?_
    refine WkT.p (slh (h := q) sl_L_int (by omega)) ?_
    refine WkT.xn (V := Trn (.int .i64 mn) (blk gN (.cells ((cs.toList.take (0 + q * 1) ++ (List.replicate q (Value.int .i64 z)).take (mn * 1) ++ cs.toList.drop (0 + q * 1 + mn * 1)).toArray) 3))) (l := [1000]) (l2 := []) hu rfl rfl rfl (by rw [needs_cons (hu0 1000 (by simp)), needs_none]; exact (det.trn (cpb (i := 0) (off := 0 + q * 1) (n := n - q) (m := q) (q := mn) sl_L_int rfl hsrc (by intro u hu; rw [List.mem_replicate] at hu; rw [hu.2]; rfl) hmn (by omega)))) ?_
    rintro _ _ hu7 ⟨rfl, rfl⟩
    refine WkT.p addi ?_
    refine WkT.nil ?_
    change Ol _ _ _ _ _ (needs u [7] _)
    rw [needs_cons hu7, needs_none]
    refine Ol.p asi ?_
    refine Ol.nil ?_
    refine ⟨n - (q + mn), by omega, q + mn, _, rfl, by omega, by omega, ⟨rfl, rfl, trivial⟩, rfl, ?_, ?_⟩
    · simp [hcn]
      omega
    · have e6 : cs.toList.take (0 + q * 1) ++ (List.replicate q (Value.int .i64 z)).take (mn * 1) = List.replicate (q + mn) (.int .i64 z) := by
        rw [show 0 + q * 1 = q by omega, hcp, Nat.mul_one, List.take_replicate, Nat.min_eq_left hmin, List.replicate_append_replicate]
      simp only [e6]
      rw [List.take_append_of_le_length (by simp)]
      simp
  have hqe : q = n := by
    have : ¬ (q : Int) < n := by simpa using h
    omega
  subst hqe
  have hfin : cs = Array.replicate q (.int .i64 z) := by
    apply Array.ext'
    rw [List.take_of_length_le (by simp; omega)] at hcp
    rw [hcp]; simp
  subst hfin
  refine Cd.exit (id := 0) ?_
  refine Cd.seq ?_
  refine Cd.region ?_
  refine Ol.p mvs ?_
  refine Ol.p ass ?_
  refine Ol.nil ?_
  exact Cd.ret ⟨.slice _ _ _, ret1 rfl rfl, _, .all, gN, rfl, rfl⟩
end
end Go.Proofs.Ytbcnejobnmljlaa
