/- The package bits: sets, walked. -/
import Derived.Test.YtbcnejobnmljlaaSet
import Derived.Test.YtbcnejobnmljlaaTypes
namespace Go.Proofs.Ytbcnejobnmljlaa
set_option linter.unusedVariables false
open Go Go.RowKit
set_option maxRecDepth 100000

def I64 (n : Int) : Prop := -9223372036854775808 ≤ n ∧ n ≤ 9223372036854775807
theorem uint_lt {n : Int} (h : I64 n) : decide (IntKind.u64.wrap n < 1024) = okN n := by
  unfold I64 at h
  rw [wrapU]
  unfold okN
  by_cases h1 : 0 ≤ n <;> by_cases h2 : n < 1024 <;> simp [h1, h2] <;> omega
theorem okN_nat {n : Int} (h : okN n = true) : ∃ k : Nat, n = (k : Int) ∧ k < 1024 := by
  rw [okN_iff] at h
  exact ⟨n.toNat, by omega, by omega⟩
theorem and63 (k : Nat) : k &&& 63 = k % 64 := Nat.and_two_pow_sub_one_eq_mod k 6
theorem pow_mod64 (k : Nat) : 1 * 2 ^ (k % 64) % 2 ^ 64 = 2 ^ (k % 64) := by
  rw [Nat.one_mul, Nat.mod_eq_of_lt]
  exact Nat.pow_lt_pow_right (by decide) (Nat.mod_lt _ (by decide))
theorem pow_lt64 (k : Nat) : 2 ^ (k % 64) < 2 ^ 64 := Nat.pow_lt_pow_right (by decide) (Nat.mod_lt _ (by decide))
theorem take_snoc {α : Type} {l : List α} {k : Nat} (h : k < l.length) : l.take (k + 1) = l.take k ++ [l[k]] := List.take_succ_eq_append_getElem h
theorem withL_take {s : Nat} {l : List Int} {k : Nat} (h : k < l.length) : withL s (l.take (k + 1)) = put (withL s (l.take k)) l[k] := by
  unfold withL; rw [take_snoc h, List.foldl_append]; rfl
theorem lessL_take {s : Nat} {l : List Int} {k : Nat} (h : k < l.length) : lessL s (l.take (k + 1)) = cut (lessL s (l.take k)) l[k] := by
  unfold lessL; rw [take_snoc h, List.foldl_append]; rfl

section
theorem bits_Set_With_ct {w : World} {s : Nat} {A : Option Addr} {c : Nat} {l : List Int} (hl : Reads w w.heap.size 1 A l.length (ints l)) (hi : ∀ n ∈ l, I64 n) (hb : l.length < 2 ^ 62) :
    Ct Try.prog 34 #[.agg (enc s), .slice A l.length c] w (Is (.agg (enc (withL s l)))) := by
  refine Ct.mk Try.func34 rfl rfl ?_
  refine Cd.seq ?_
  refine Cd.region ?_
  refine Ol.x bxg ?_
  rintro _ _ ⟨g2, rfl, rfl⟩
  refine Ol.x (alc zr_bits_Set) ?_
  rintro _ _ ⟨g4, rfl, rfl⟩
  refine Ol.nil ?_
  refine Cd.seq ?_
  refine Cd.seq ?_
  refine Cd.region ?_
  refine Ol.p mvs ?_
  refine Ol.p (lens sl_L_int) ?_
  refine Ol.p mvi ?_
  refine Ol.nil ?_
  refine Cd.block ?_
  refine Cd.loop (fun m σ L => ∃ k, m = l.length - k ∧ k ≤ l.length ∧ Has σ [(2, .pointer (some ⟨g2, 0, none⟩)), (4, .pointer (some ⟨g4, 0, none⟩)), (7, .slice A l.length c), (8, .int .i64 l.length), (9, .int .i64 k)] ∧ L = [blk g4 (.cells (Array.replicate 16 (.int .u64 0)) 75), blk g2 (.cells (enc (withL s (l.take k))) 75)]) (n := l.length) ⟨0, rfl, Nat.zero_le _, ⟨rfl, rfl, rfl, rfl, rfl, trivial⟩, rfl⟩ ?_
  rintro _ σ L ⟨k, rfl, hk, hs, rfl⟩
  refine Cd.has hs ?_
  refine Cd.seq ?_
  refine Cd.region ?_
  refine Ol.p lsi ?_
  refine Ol.nil ?_
  refine Cd.seq ?_
  refine Cd.cond rfl (fun h => ?_) (fun h => ?_)
  · have hlt : k < l.length := by simpa using h
    have hI : I64 l[k] := hi _ (List.getElem_mem hlt)
    refine Cd.skip ?_
    refine Cd.mid (fun σ' L' => Has σ' [(2, .pointer (some ⟨g2, 0, none⟩)), (4, .pointer (some ⟨g4, 0, none⟩)), (7, .slice A l.length c), (8, .int .i64 l.length), (9, .int .i64 k)] ∧ L' = [blk g4 (.cells (Array.replicate 16 (.int .u64 0)) 75), blk g2 (.cells (enc (withL s (l.take (k + 1)))) 75)]) ?_ ?_
    · refine Cd.block ?_
      refine Cd.seq ?_
      refine Cd.region ?_
      refine Ol.p (ixn1 sl_L_int (Som.slc hl (by omega))) ?_
      refine Ol.p (ld one_int (Rd.slc hl (ints_get hlt))) ?_
      refine Ol.p asi ?_
      refine Ol.nil ?_
      refine Cd.seq ?_
      refine Cd.region ?_
      refine Ol.p mvi ?_
      refine Ol.p (cvw in_int in_uint) ?_
      refine Ol.p lsi ?_
      refine Ol.nil ?_
      refine Cd.cond rfl (fun h2 => ?_) (fun h2 => ?_)
      · rw [uint_lt hI] at h2
        obtain ⟨q, hq, hq2⟩ := okN_nat h2
        rw [hq]
        refine Cd.draw mixed 9 (fun _ => none) (fun _ => []) (by kernel_rfl) (fun _ _ h => by cases h) (fun u hu => ?_)
        refine Wk.p mvi ?_
        refine Wk.p (shrn (n := 6)) ?_
        refine Wk.p (ixl1 (ix := q / 64) ar_bits_Set) ?_
        refine Wk.p (ld one_uint64 (Rd.blk (i := 1) rfl (encF_get (i := q / 64) (by omega)))) ?_
        refine Wk.p mvi ?_
        refine Wk.p (andn (b := 63)) ?_
        refine Wk.p (shlu (a := 1) (n := q &&& 63) (hn := by rw [and63]; omega)) ?_
        refine Wk.p (oru (ha := wd_lt _ _) (hb := Nat.mod_lt _ (by decide))) ?_
        refine Wk.p (ixl1 (ix := q / 64) ar_bits_Set) ?_
        refine Wk.nil ?_
        refine Ol.s (sto (k := q / 64) (.inr sz_uint64) rfl rfl (i := 1) rfl (by rw [enc_size]; omega) rfl) ?_
        refine Ol.nil ?_
        refine ⟨⟨rfl, rfl, rfl, rfl, rfl, trivial⟩, ?_⟩
        rw [withL_take hlt, hq, ← enc_put hq2, and63, pow_mod64]
        rfl
      · rw [uint_lt hI] at h2
        refine Cd.skip ⟨⟨rfl, rfl, rfl, rfl, rfl, trivial⟩, ?_⟩
        rw [withL_take hlt]
        simp [put, h2]
    · rintro σ' _ ⟨hs', rfl⟩
      refine Cd.has hs' ?_
      refine Cd.region ?_
      refine Ol.p addi ?_
      refine Ol.p mvi ?_
      refine Ol.nil ?_
      refine ⟨l.length - (k + 1), by omega, k + 1, rfl, by omega, ⟨rfl, rfl, rfl, rfl, rfl, trivial⟩, rfl⟩
  · have hge : k = l.length := by
      have : ¬ (k : Int) < l.length := by simpa using h
      omega
    subst hge
    refine Cd.exit (id := 0) ?_
    refine Cd.seq ?_
    refine Cd.region ?_
    refine Ol.p (ldw ag_bits_Set (i := 1) rfl (enc_size _)) ?_
    refine Ol.s (stw sz_bits_Set (enc_size _) (encF_one _) (i := 0) rfl (by simp)) ?_
    refine Ol.nil ?_
    refine Cd.ret ?_
    refine ⟨_, retc rfl ag_bits_Set rfl (i := 0) rfl (enc_size _), [], .nil, ?_, rfl⟩
    rw [List.take_length]
end





theorem shr_one (w j : Nat) : decide ((((w / 2 ^ j) &&& 1 : Nat) : Int) = 1) = w.testBit j := by
  rw [Nat.testBit_eq_decide_div_mod_eq, Nat.and_one_is_mod]
  apply decide_eq_decide.2
  omega
theorem wd_bit (s q : Nat) : (wd s (q / 64)).testBit (q % 64) = s.testBit q := by
  rw [testBit_wd, Nat.div_add_mod]
  have : q % 64 < 64 := Nat.mod_lt _ (by decide)
  simp [this]
section
theorem bits_Set_Has_ct {w : World} {s : Nat} {n : Int} (hn : I64 n) : Ct Try.prog 33 #[.agg (enc s), .int .i64 n] w (Is (.bool (memb s n))) := by
  refine Ct.mk Try.func33 rfl rfl ?_
  refine Cd.seq ?_
  refine Cd.region ?_
  refine Ol.x bxg ?_
  rintro _ _ ⟨g2, rfl, rfl⟩
  refine Ol.p asb ?_
  refine Ol.nil ?_
  refine Cd.seq ?_
  cases hok : okN n with
  | true =>
    obtain ⟨q, hq, hq2⟩ := okN_nat hok
    have hd : decide (IntKind.u64.wrap (q : Int) < 1024) = true := by rw [uint_lt (by unfold I64; omega), ← hq]; exact hok
    subst hq
    refine Cd.region ?_
    refine Ol.p mvi ?_
    refine Ol.p (cvw in_int in_uint) ?_
    refine Ol.p lsi ?_
    refine Ol.p mvb ?_
    refine Ol.gp hd mvi ?_
    refine Ol.gp hd (shrn (n := 6)) ?_
    refine Ol.gp hd (ixl1 (ix := q / 64) ar_bits_Set) ?_
    refine Ol.gp hd (ld one_uint64 (Rd.blk (i := 0) rfl (encF_get (i := q / 64) (by omega)))) ?_
    refine Ol.gp hd mvi ?_
    refine Ol.gp hd (andn (b := 63)) ?_
    refine Ol.gp hd (shru (n := q &&& 63) (hn := by rw [and63]; omega)) ?_
    refine Ol.gp hd (andu (b := 1) (ha := Nat.lt_of_le_of_lt (Nat.div_le_self _ _) (wd_lt _ _))) ?_
    refine Ol.gp hd eqi ?_
    refine Ol.p (pkTb hd) ?_
    refine Ol.p asb ?_
    refine Ol.nil ?_
    refine Cd.ret ⟨.bool _, ret1 rfl rfl, [], .nil, ?_, rfl⟩
    rw [shr_one, and63, wd_bit]
    simp [memb, hok]
  | false =>
    have hd : decide (IntKind.u64.wrap n < 1024) = false := by rw [uint_lt hn]; exact hok
    refine Cd.region ?_
    refine Ol.p mvi ?_
    refine Ol.p (cvw in_int in_uint) ?_
    refine Ol.p lsi ?_
    refine Ol.p mvb ?_
    refine Ol.gn hd ?_
    refine Ol.gn hd ?_
    refine Ol.gn hd ?_
    refine Ol.gn hd ?_
    refine Ol.gn hd ?_
    refine Ol.gn hd ?_
    refine Ol.gn hd ?_
    refine Ol.gn hd ?_
    refine Ol.gn hd ?_
    refine Ol.p (pkFb hd) ?_
    refine Ol.p asb ?_
    refine Ol.nil ?_
    refine Cd.ret ⟨.bool _, ret1 rfl rfl, [], .nil, ?_, rfl⟩
    simp [memb, hok]
end
end Go.Proofs.Ytbcnejobnmljlaa
