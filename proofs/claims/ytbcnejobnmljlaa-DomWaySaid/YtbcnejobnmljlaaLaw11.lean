/- The law 11: its example, walked. -/
import Derived.Test.YtbcnejobnmljlaaDom2
import Derived.Test.YtbcnejobnmljlaaHas
import Derived.Test.YtbcnejobnmljlaaLaw10
namespace Go.Proofs.Ytbcnejobnmljlaa
set_option linter.unusedVariables false
open Go Go.RowKit
set_option maxRecDepth 100000

section
theorem law11_branch_ct {w : World} {x y : Int} : Ct Try.prog 12 #[.int .i64 x, .int .i64 y] w (Is (RBlk.val ⟨none, 0, [], ⟨2, 1, x, y⟩⟩)) := by
  refine Ct.mk Try.func12 rfl rfl ?_
  refine Cd.seq ?_
  refine Cd.region ?_
  refine Ol.x (alc zr_api_Block) ?_
  rintro _ _ ⟨g4, rfl, rfl⟩
  refine Ol.nil ?_
  refine Cd.seq ?_
  refine Cd.region ?_
  refine Ol.p mvi ?_
  refine Ol.p mvi ?_
  refine Ol.p (bda (cs := #[.int .i64 x, .int .i64 y]) ar_A2_int zr_A2_int (hf := by kernel_rfl)) ?_
  refine Ol.p (bds (cs := #[.int .i64 2, .int .i64 1, .int .i64 x, .int .i64 y]) bs_api_Term zr_api_Term (hf := by kernel_rfl)) ?_
  refine Ol.p (bds (cs := #[.slice none 0 0, .int .i64 2, .int .i64 1, .int .i64 x, .int .i64 y]) bs_api_Block zr_api_Block (hf := by kernel_rfl)) ?_
  refine Ol.s (stw (vs := #[.slice none 0 0, .int .i64 2, .int .i64 1, .int .i64 x, .int .i64 y]) sz_api_Block rfl (by intro u hu; simp at hu; rcases hu with rfl | rfl | rfl | rfl | rfl <;> rfl) (i := 0) rfl rfl) ?_
  refine Ol.nil ?_
  refine Cd.ret ⟨_, retc rfl ag_api_Block rfl (i := 0) rfl rfl, [], .nil, rfl, rfl⟩
theorem law11_jump_ct {w : World} {x : Int} : Ct Try.prog 13 #[.int .i64 x] w (Is (RBlk.val ⟨none, 0, [], ⟨1, 0, x, 0⟩⟩)) := by
  refine Ct.mk Try.func13 rfl rfl ?_
  refine Cd.seq ?_
  refine Cd.region ?_
  refine Ol.x (alc zr_api_Block) ?_
  rintro _ _ ⟨g2, rfl, rfl⟩
  refine Ol.nil ?_
  refine Cd.seq ?_
  refine Cd.region ?_
  refine Ol.p mvi ?_
  refine Ol.p (bda (cs := #[.int .i64 x, .int .i64 0]) ar_A2_int zr_A2_int (hf := by kernel_rfl)) ?_
  refine Ol.p (bds (cs := #[.int .i64 1, .int .i64 0, .int .i64 x, .int .i64 0]) bs_api_Term zr_api_Term (hf := by kernel_rfl)) ?_
  refine Ol.p (bds (cs := #[.slice none 0 0, .int .i64 1, .int .i64 0, .int .i64 x, .int .i64 0]) bs_api_Block zr_api_Block (hf := by kernel_rfl)) ?_
  refine Ol.s (stw (vs := #[.slice none 0 0, .int .i64 1, .int .i64 0, .int .i64 x, .int .i64 0]) sz_api_Block rfl (by intro u hu; simp at hu; rcases hu with rfl | rfl | rfl | rfl | rfl <;> rfl) (i := 0) rfl rfl) ?_
  refine Ol.nil ?_
  refine Cd.ret ⟨_, retc rfl ag_api_Block rfl (i := 0) rfl rfl, [], .nil, rfl, rfl⟩
end
section
def F11 (g : Nat) : RFun := ⟨none, 0, [], some ⟨g, 0, none⟩, 4, [⟨none, 0, [], ⟨2, 1, 1, 2⟩⟩, ⟨none, 0, [], ⟨1, 0, 3, 0⟩⟩, ⟨none, 0, [], ⟨1, 0, 3, 0⟩⟩, ⟨none, 0, [], ⟨4, 0, 0, 0⟩⟩]⟩
def T11 : List Tm := [⟨2, 1, 1, 2⟩, ⟨1, 0, 3, 0⟩, ⟨1, 0, 3, 0⟩, ⟨4, 0, 0, 0⟩]
theorem F11_fit (g : Nat) : Fit (F11 g) := by
  constructor <;> simp [F11]
theorem Reads.no {w : World} {B s : Nat} : Reads w B s none 0 [] := ⟨by simp, fun h => absurd h (by omega)⟩
theorem F11_at {w : World} {B g : Nat} (h : Reads w B 5 (some ⟨g, 0, none⟩) 4 ((F11 g).blocks.flatMap RBlk.cells)) : FunAt w B (F11 g) := by
  refine ⟨Reads.no, h, ?_, ?_⟩
  · intro b hb
    simp [F11] at hb
    rcases hb with rfl | rfl | rfl <;> exact Reads.no
  · intro b hb i hi
    simp [F11] at hb
    rcases hb with rfl | rfl | rfl <;> simp at hi
theorem T11_closed : closed T11 = true := by kernel_rfl
theorem T11_dom : DomU T11 [-1, 0, 0, 0] := DomU.of_check (by kernel_rfl)
theorem T11_domL : domL T11 = [-1, 0, 0, 0] := (T11_dom.eqL T11_closed).symm
theorem T11_over (a b : Int) (r : Bool) (h : ((upsC [-1, 0, 0, 0] (plL T11) 5 b).any fun d => decide ((d : Int) = a)) = r) : overF T11 a b = r := by
  rw [overF_ups T11_closed, T11_domL]; exact h
theorem T11_both : bothF T11 1 3 = 0 := by
  have hd : DomU T11 (domL T11) := by rw [T11_domL]; exact T11_dom
  have F := hd.2 T11_closed
  have hm : Meet (asU (domL T11)) 1 3 0 := by
    rw [T11_domL]
    refine ⟨.up (by decide) .refl, .up (by decide) .refl, fun z h1 h2 => ?_⟩
    rcases h1.inv with rfl | ⟨_, h1⟩
    · rcases h2.inv with e | ⟨_, h2⟩
      · omega
      · rcases h2.inv with e | ⟨h3, _⟩
        · exact absurd e (by decide)
        · exact absurd h3 (by decide)
    · exact h1
  have h1 : inP (plL T11) 1 = true := by kernel_rfl
  have h3 : inP (plL T11) 3 = true := by kernel_rfl
  unfold bothF
  rw [T11_closed, h1, h3, Bool.true_and, Bool.true_and, cond_true]
  rw [show ((1 : Int).toNat) = 1 from rfl, show ((3 : Int).toNat) = 3 from rfl, hm.eps F.tr (F.all 1 (by have : (1 : Nat) ∈ orderF T11 := List.contains_iff_mem.1 (show (orderF T11).contains 1 = true by kernel_rfl); exact this))]
  rfl
set_option maxHeartbeats 1000000 in
theorem law11_awake_ct {w : World} : Ct Try.prog 4 #[] w (Is (.bool true)) := by
  refine Ct.mk Try.func4 rfl rfl ?_
  refine Cd.seq ?_
  refine Cd.region ?_
  refine Ol.p asb ?_
  refine Ol.nil ?_
  refine Cd.seq ?_
  refine Cd.region ?_
  refine Ol.s (cl en_law11_branch (fun M w' hh => law11_branch_ct)) ?_
  refine Ol.s (cl en_law11_jump (fun M w' hh => law11_jump_ct)) ?_
  refine Ol.s (cl en_law11_jump (fun M w' hh => law11_jump_ct)) ?_
  refine Ol.p (bds (cs := #[.int .i64 4, .int .i64 0, .int .i64 0, .int .i64 0]) bs_api_Term zr_api_Term (hf := by kernel_rfl)) ?_
  refine Ol.p (bds (cs := #[.slice none 0 0, .int .i64 4, .int .i64 0, .int .i64 0, .int .i64 0]) bs_api_Block zr_api_Block (hf := by kernel_rfl)) ?_
  refine Ol.x (bsn [RBlk.val ⟨none, 0, [], ⟨2, 1, 1, 2⟩⟩, RBlk.val ⟨none, 0, [], ⟨1, 0, 3, 0⟩⟩, RBlk.val ⟨none, 0, [], ⟨1, 0, 3, 0⟩⟩, RBlk.val ⟨none, 0, [], ⟨4, 0, 0, 0⟩⟩] sl_L_api_Block zr_api_Block (by intro v hv; simp at hv; rcases hv with rfl | rfl | rfl <;> rfl) rfl (by decide) (by decide)) ?_
  rintro _ _ ⟨g7, rfl, rfl⟩
  refine Ol.p (bds (cs := #[.slice none 0 0, .slice (some ⟨g7, 0, none⟩) 4 4]) bs_api_Func zr_api_Func (hf := by kernel_rfl)) ?_
  refine Ol.x (alc zr_api_Func) ?_
  rintro _ _ ⟨g1, rfl, rfl⟩
  refine Ol.s (stw (vs := #[.slice none 0 0, .slice (some ⟨g7, 0, none⟩) 4 4]) sz_api_Func rfl (by intro u hu; simp at hu; rcases hu with rfl | rfl <;> rfl) (i := 0) rfl rfl) ?_
  refine Ol.nil ?_
  have hov : ∀ (a b : Int) (r : Bool), overF T11 a b = r → (-9223372036854775808 ≤ b ∧ b ≤ 9223372036854775807) → ∀ (w' : World), Reads w' w'.heap.size 5 (some ⟨g7, 0, none⟩) 4 ((F11 g7).blocks.flatMap RBlk.cells) → Ct Try.prog 9 #[(F11 g7).val, .int .i64 a, .int .i64 b] w' (Is (.bool r)) := fun a b r hr hb w' h => by
    have := dom_Over_ct (w := w') (f := F11 g7) (a := a) (b := b) (F11_at h) (F11_fit g7) hb
    rw [show (F11 g7).terms = T11 from rfl, hr] at this
    exact this
  refine Cd.seq ?_
  refine Cd.region ?_
  refine Ol.p (ldw ag_api_Func (i := 0) rfl rfl) ?_
  refine Ol.x (sp_call en_dom_Of (fun M' w' hh => dom_Of_ct (f := F11 g7) (w := w') (F11_at (Reads.row hh (i := 1) rfl)) (F11_fit g7))) ?_
  rintro _ _ ⟨_, rfl, ⟨hc, _⟩ | ⟨_, hd, gD, rfl, rfl⟩⟩; (exact absurd (T11_closed.symm.trans hc) (by simp))
  rw [show domL (F11 g7).terms = [-1, 0, 0, 0] from T11_domL]
  refine Ol.x (bsv [.int .i64 (-1), .int .i64 0, .int .i64 0, .int .i64 0] sl_L_int zr_int (by simp [Value.cells])) ?_
  rintro _ _ ⟨g11, rfl, rfl⟩
  refine Ol.s (cl en_kit_SameInts (fun M w' hh => kit_SameInts_ct (a := [-1, 0, 0, 0]) (b := [-1, 0, 0, 0]) (Reads.blk hh (k := 0) (i := 1) rfl rfl (fun j u hu => by simpa using hu)) (Reads.row hh (i := 0) rfl) (by decide) (by decide))) ?_
  refine Ol.p mvb ?_
  refine Ol.gp rfl (ldw ag_api_Func (i := 2) rfl rfl) ?_
  refine Ol.gs rfl (cl en_dom_Over (fun M w' hh => hov 0 3 true (T11_over 0 3 true (by kernel_rfl)) (by decide) w' (Reads.row hh (i := 3) rfl))) ?_
  refine Ol.p (pkTb rfl) ?_
  refine Ol.p mvb ?_
  refine Ol.gp rfl (ldw ag_api_Func (i := 2) rfl rfl) ?_
  refine Ol.gs rfl (cl en_dom_Over (fun M w' hh => hov 1 3 false (T11_over 1 3 false (by kernel_rfl)) (by decide) w' (Reads.row hh (i := 3) rfl))) ?_
  refine Ol.gp rfl noti ?_
  refine Ol.p (pkTb rfl) ?_
  refine Ol.p mvb ?_
  refine Ol.gp rfl (ldw ag_api_Func (i := 2) rfl rfl) ?_
  refine Ol.gs rfl (cl en_dom_Both (fun M w' hh => by have := dom_Both_ct (w := w') (f := F11 g7) (a := 1) (b := 3) (F11_at (Reads.row hh (i := 3) rfl)) (F11_fit g7) (by decide) (by decide); rw [show (F11 g7).terms = T11 from rfl, T11_both] at this; exact this)) ?_
  refine Ol.gp rfl eqi ?_
  refine Ol.p (pkTb rfl) ?_
  refine Ol.p asb ?_
  refine Ol.nil ?_
  exact Cd.ret ⟨.bool _, ret1 rfl rfl, [], .nil, rfl, rfl⟩
end
end Go.Proofs.Ytbcnejobnmljlaa
