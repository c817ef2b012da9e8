/- The law 15: its functions, walked. -/
import Derived.Test.YtbcnejobnmljlaaDoorBits2
import Derived.Test.YtbcnejobnmljlaaDoorPick
import Derived.Test.YtbcnejobnmljlaaDoorApp
namespace Go.Proofs.YtbcnejobnmljlaaDoor
set_option linter.unusedVariables false
open Go Go.RowKit
set_option maxRecDepth 100000

theorem i64_of {l : List Int} (h : l.all (fun n => decide (-9223372036854775808 ≤ n) && decide (n ≤ 9223372036854775807)) = true) : ∀ n ∈ l, I64 n := fun n hn => by
  have := List.all_eq_true.1 h n hn
  simpa [I64] using this
section
theorem law15_awake_ct {w : World} (hT : Tabs w w.heap.size) : Ct Tryd.prog 10 #[] w (Is (.bool true)) := by
  have h1 : decide ((manyF (ofL [1, 64, 1024]) 16 : Int) = 2) = true := by kernel_rfl
  have h2 : decide (firstS (ofL [1, 64, 1024]) = 1) = true := by kernel_rfl
  have h3 : decide (firstS (lessL (ofL [1, 64, 1024]) [1]) = 64) = true := by kernel_rfl
  have h4 : memb (lessL (ofL [1, 64, 1024]) [1]) 64 = true := by kernel_rfl
  have h5 : memb (lessL (ofL [1, 64, 1024]) [1]) 1 = false := by kernel_rfl
  have hi1 : ∀ n ∈ [(1 : Int), 64, 1024], I64 n := i64_of (by decide)
  have hi2 : ∀ n ∈ [(1 : Int)], I64 n := i64_of (by decide)
  refine Ct.mk Tryd.func10 rfl rfl ?_
  refine Cd.seq ?_
  refine Cd.region ?_
  refine Ol.p asb ?_
  refine Ol.nil ?_
  refine Cd.seq ?_
  refine Cd.region ?_
  refine Ol.x (bsv [.int .i64 1, .int .i64 64, .int .i64 1024] sl_L_int zr_int (by simp [Value.cells])) ?_
  rintro _ _ ⟨g3, rfl, rfl⟩
  refine Ol.s (cl en_bits_Of (fun M w' hh => bits_Of_ct (l := [1, 64, 1024]) (Reads.row hh (i := 0) rfl) hi1 (by decide))) ?_
  refine Ol.x (alc zr_bits_Set) ?_
  rintro _ _ ⟨g1, rfl, rfl⟩
  refine Ol.s (stw sz_bits_Set (enc_size _) (encF_one _) (i := 0) rfl rfl) ?_
  refine Ol.nil ?_
  refine Cd.seq ?_
  refine Cd.region ?_
  refine Ol.p (ldw ag_bits_Set (i := 0) rfl (enc_size _)) ?_
  refine Ol.x (bsv [.int .i64 1] sl_L_int zr_int (by simp [Value.cells])) ?_
  rintro _ _ ⟨g6, rfl, rfl⟩
  refine Ol.s (cl en_bits_Set_Without (fun M w' hh => bits_Set_Without_ct (s := ofL [1, 64, 1024]) (l := [1]) (Reads.row hh (i := 0) rfl) hi2 (by decide))) ?_
  refine Ol.x (alc zr_bits_Set) ?_
  rintro _ _ ⟨g2, rfl, rfl⟩
  refine Ol.s (stw sz_bits_Set (enc_size _) (encF_one _) (i := 0) rfl rfl) ?_
  refine Ol.nil ?_
  refine Cd.seq ?_
  refine Cd.region ?_
  refine Ol.p (ldw ag_bits_Set (i := 2) rfl (enc_size _)) ?_
  refine Ol.s (cl en_bits_Set_Many (fun M w' hh => bits_Set_Many_ct (s := ofL [1, 64, 1024]))) ?_
  refine Ol.p eqi ?_
  refine Ol.p mvb ?_
  refine Ol.gp h1 (ldw ag_bits_Set (i := 2) rfl (enc_size _)) ?_
  refine Ol.gs h1 (cl en_bits_Set_First (fun M w' hh => bits_Set_First_ct (s := ofL [1, 64, 1024]) (hT.now hh))) ?_
  refine Ol.gp h1 eqi ?_
  refine Ol.p (pkTb h1) ?_
  refine Ol.p mvb ?_
  refine Ol.gp h2 (ldw ag_bits_Set (i := 0) rfl (enc_size _)) ?_
  refine Ol.gs h2 (cl en_bits_Set_First (fun M w' hh => bits_Set_First_ct (s := lessL (ofL [1, 64, 1024]) [1]) (hT.now hh))) ?_
  refine Ol.gp h2 eqi ?_
  refine Ol.p (pkTb h2) ?_
  refine Ol.p mvb ?_
  refine Ol.gp h3 (ldw ag_bits_Set (i := 0) rfl (enc_size _)) ?_
  refine Ol.gs h3 (cl en_bits_Set_Has (fun M w' hh => bits_Set_Has_ct (s := lessL (ofL [1, 64, 1024]) [1]) (n := 64) (by unfold I64; omega))) ?_
  refine Ol.p (pkTb h3) ?_
  refine Ol.p mvb ?_
  refine Ol.gp h4 (ldw ag_bits_Set (i := 0) rfl (enc_size _)) ?_
  refine Ol.gs h4 (cl en_bits_Set_Has (fun M w' hh => bits_Set_Has_ct (s := lessL (ofL [1, 64, 1024]) [1]) (n := 1) (by unfold I64; omega))) ?_
  refine Ol.gp h4 noti ?_
  refine Ol.p (pkTb h4) ?_
  refine Ol.p asb ?_
  refine Ol.nil ?_
  refine Cd.ret ⟨.bool _, ret1 rfl rfl, [], .nil, ?_, rfl⟩
  rw [h5]
  rfl
end
section
def turned (b : List Int) (k : Nat) : List Int := b.drop k ++ b.take k
theorem turned_contains (b : List Int) (k : Nat) (n : Int) : (turned b k).contains n = b.contains n := by
  rw [Bool.eq_iff_iff]
  simp only [List.contains_iff_mem, turned, List.mem_append]
  constructor
  · rintro (h | h)
    · exact List.mem_of_mem_drop h
    · exact List.mem_of_mem_take h
  · intro h
    rw [← List.take_append_drop k b] at h
    rcases List.mem_append.1 h with h | h
    · exact .inr h
    · exact .inl h
theorem set_ext {s t : Nat} (h : ∀ i, s.testBit i = t.testBit i) : s = t := Nat.eq_of_testBit_eq h
theorem turn1 (s : Nat) (b : List Int) (k : Nat) : withL s b = withL (withL s (turned b k)) b := set_ext fun i => by
  simp only [testBit_withL, turned_contains]; cases s.testBit i <;> cases okN i <;> cases b.contains (i : Int) <;> rfl
theorem turn2 (s : Nat) (b : List Int) (k : Nat) : lessL s b = lessL (lessL s (turned b k)) b := set_ext fun i => by
  simp only [testBit_lessL, turned_contains]; cases s.testBit i <;> cases okN i <;> cases b.contains (i : Int) <;> rfl
theorem turn3 (s : Nat) (b : List Int) : lessL (withL s b) b = less s (ofL b) := set_ext fun i => by
  simp only [testBit_lessL, testBit_withL, testBit_less, testBit_ofL]; cases s.testBit i <;> cases okN i <;> cases b.contains (i : Int) <;> rfl
theorem turn4 (s : Nat) (b : List Int) : withL (lessL s b) b = s ||| ofL b := set_ext fun i => by
  simp only [testBit_lessL, testBit_withL, Nat.testBit_or, testBit_ofL]; cases s.testBit i <;> cases okN i <;> cases b.contains (i : Int) <;> rfl
theorem turn5 (b : List Int) (k : Nat) : ofL b = ofL (turned b k) := set_ext fun i => by simp only [testBit_ofL, turned_contains]
theorem turned_mem {b : List Int} {k : Nat} {n : Int} (h : n ∈ turned b k) : n ∈ b := by
  have := turned_contains b k n
  rw [List.contains_iff_mem.2 h] at this
  exact List.contains_iff_mem.1 this.symm
theorem turned_len (b : List Int) {k : Nat} (h : k ≤ b.length) : (turned b k).length = b.length - k + k := by
  simp [turned, Nat.min_eq_left h]
theorem eq_true {s t : Nat} (hs : Sm s) (h : s = t) : true = true ↔ enc s = enc t := by subst h; simp
theorem ints_app (a b : List Int) : ints (a ++ b) = ints a ++ ints b := by simp [ints]
theorem ints_drop (a : List Int) (k : Nat) : ints (a.drop k) = (ints a).drop k := by simp [ints, List.map_drop]
theorem ints_take (a : List Int) (k : Nat) : ints (a.take k) = (ints a).take k := by simp [ints, List.map_take]
theorem law15_BitsTurn_ct {w : World} {A1 A2 : Option Addr} {c1 c2 : Nat} {a b : List Int} {turn : Int} (hT : Tabs w w.heap.size) (ha : Reads w w.heap.size 1 A1 a.length (ints a)) (hb : Reads w w.heap.size 1 A2 b.length (ints b)) (hia : ∀ n ∈ a, I64 n) (hib : ∀ n ∈ b, I64 n)
    (hla : a.length < 2 ^ 61) (hlb0 : b.length < 2 ^ 61) (hc2 : b.length ≤ c2) : Ct Tryd.prog 3 #[.slice A1 a.length c1, .slice A2 b.length c2, .int .i64 turn] w (Is (.bool true)) := by
  refine Ct.mk Tryd.func3 rfl rfl ?_
  refine Cd.seq ?_
  refine Cd.region ?_
  refine Ol.p asb ?_
  refine Ol.nil ?_
  refine Cd.seq ?_
  refine Cd.seq ?_
  refine Cd.region ?_
  refine Ol.s (cl en_law15_awake (fun M w' hh => law15_awake_ct (hT.now hh))) ?_
  refine Ol.p noti ?_
  refine Ol.nil ?_
  refine Cd.cond rfl (fun h => by cases h) (fun h => ?_)
  refine Cd.skip ?_
  refine Cd.seq ?_
  refine Cd.seq ?_
  refine Cd.region ?_
  refine Ol.p mvs ?_
  refine Ol.p (lens sl_L_int) ?_
  refine Ol.p mvs ?_
  refine Ol.p (lens sl_L_int) ?_
  refine Ol.p addi ?_
  refine Ol.p gti ?_
  refine Ol.nil ?_
  refine Cd.cond rfl (fun h => ?_) (fun h => ?_)
  · refine Cd.seq ?_
    refine Cd.region ?_
    refine Ol.p asb ?_
    refine Ol.nil ?_
    refine Cd.ret ⟨.bool _, ret1 rfl rfl, [], .nil, rfl, rfl⟩
  refine Cd.skip ?_
  have hlen : a.length + b.length ≤ 3000 := by simp at h; omega
  have hlb : b.length < 2 ^ 62 := by omega
  have hla2 : a.length < 2 ^ 62 := by omega
  refine Cd.seq ?_
  refine Cd.region ?_
  refine Ol.p mvi ?_
  refine Ol.p mvs ?_
  refine Ol.p (lens sl_L_int) ?_
  refine Ol.p addi ?_
  refine Ol.s (cl en_kit_Pick (fun M w' hh => kit_Pick_ct (x := turn) (n := b.length + 1) (by omega) (by omega))) ?_
  refine Ol.p asi ?_
  refine Ol.nil ?_
  obtain ⟨k, hk⟩ : ∃ k, k = pickF turn (b.length + 1) := ⟨_, rfl⟩
  have hkb : k ≤ b.length := by have := pickF_lt (x := turn) (n := b.length + 1) (by omega); omega
  rw [← hk]
  have hio : ∀ n ∈ turned b k, I64 n := fun n hn => hib n (turned_mem hn)
  have hlo : (turned b k).length < 2 ^ 62 := by rw [turned_len b hkb]; omega
  have hcut := hb.cut hkb hc2
  have hpre := hb.pre hkb
  refine Cd.mid (fun σ' L' => ∃ A c, Has σ' [(0, .slice A1 a.length c1), (1, .slice A2 b.length c2), (6, .bool false), (8, .slice A (turned b k).length c)] ∧ ∀ M w', Hp w w.heap.size (M ++ L') w' → Reads w' w'.heap.size 1 A (turned b k).length (ints (turned b k))) ?_ ?_
  · have e1 : (turned b k).length = b.length - k + k := turned_len b hkb
    have e2 : ints (turned b k) = (ints b).drop (k * 1) ++ (ints b).take (k * 1) := by rw [Nat.mul_one, turned, ints_app, ints_drop, ints_take]
    refine Cd.draw mixed 8 (fun j => match j with | 0 => some (NewSv 3 1 0 0 []) | 4 => some (ApZx 3 1 (b.length - k) ((ints b).drop (k * 1))) | _ => none) (fun _ => []) (by kernel_rfl) (by intro j V h; split at h <;> cases h; exact ⟨_, _, 0, rfl, rfl⟩; exact ⟨_, _, .inr ⟨none, 0, rfl, rfl⟩⟩) (fun u hu => ?_)
    refine Wk.x hu (NewS.adds (bsv [] sl_L_int zr_int (by simp))) ?_
    rintro _ _ hu0 ⟨g0, rfl, rfl⟩
    refine Wk.p mvs ?_
    refine Wk.p mvi ?_
    refine Wk.p (sll sl_L_int hkb) ?_
    refine Wk.x hu (ApZ.adds (apz sl_L_int zr_int rfl (by decide) (Src.slc hcut) (by unfold maxLen; omega) (by omega))) ?_
    rintro v4 R4 hu4 hv4
    refine Wk.p mvs ?_
    refine Wk.p mvi ?_
    refine Wk.p (slh sl_L_int (Nat.le_trans hkb hc2)) ?_
    refine Wk.nil ?_
    rw [needs_cons hu4, needs_cons hu0, needs_none]
    rcases hv4 with ⟨hm0, ⟨A4, rfl⟩, rfl⟩ | ⟨A4, c4, rfl, rfl⟩
    · skip
      refine Ol.x (apz sl_L_int zr_int rfl (by decide) (Src.slc hpre) (by unfold maxLen; omega) (by omega)) ?_
      rintro _ _ ⟨T8, rfl, hv8⟩
      have e3 : (ints b).drop (k * 1) = [] := List.drop_eq_nil_of_le (by rw [ints_len]; omega)
      rw [e3, List.nil_append] at e2
      have e4 : (turned b k).length = k := by omega
      rw [e2, e4]
      rcases hv8 with ⟨hk0, rfl, rfl⟩ | ⟨A8, c8, rfl, rfl⟩
      · have : (ints b).take (k * 1) = [] := by rw [hk0]; simp
        refine Ol.p ass ?_
        refine Ol.nil ?_
        exact ⟨A4, 0, ⟨rfl, rfl, rfl, by rw [hk0]; rfl, trivial⟩, fun M w' hh => ⟨by rw [this, hk0]; rfl, fun h => by omega⟩⟩
      · skip
        refine Ol.p ass ?_
        refine Ol.nil ?_
        exact ⟨A8, c8, ⟨rfl, rfl, rfl, rfl, trivial⟩, fun M w' hh => Reads.row hh (i := 0) rfl⟩
    · skip
      refine Ol.x (apn (i := 0) (n := b.length - k) sl_L_int zr_int rfl (by decide) rfl (Src.slc hpre) (fun u hu => ints_one b u (List.mem_of_mem_take hu)) (by unfold maxLen; omega) (by omega)) ?_
      rintro _ _ ⟨A8, c8, rfl, rfl⟩
      refine Ol.p ass ?_
      refine Ol.nil ?_
      rw [e2, e1]
      exact ⟨A8, c8, ⟨rfl, rfl, rfl, rfl, trivial⟩, fun M w' hh => Reads.row hh (i := 0) rfl⟩
  rintro σ L ⟨A, c, hs, hO⟩
  refine Cd.has hs ?_
  refine Cd.seq ?_
  refine Cd.region ?_
  refine Ol.p mvs ?_
  refine Ol.s (cl en_bits_Of (fun M w' hh => bits_Of_ct (l := a) (ha.now hh) hia hla2)) ?_
  refine Ol.x (alc zr_bits_Set) ?_
  rintro _ _ ⟨g9, rfl, rfl⟩
  refine Ol.s (stw sz_bits_Set (enc_size _) (encF_one _) (i := 0) rfl rfl) ?_
  refine Ol.nil ?_
  have hO9 : ∀ M w', Hp w w.heap.size (M ++ (blk g9 (.cells (enc (ofL a)) 27) :: L)) w' → Reads w' w'.heap.size 1 A (turned b k).length (ints (turned b k)) := fun M w' hh => hO (M ++ [_]) w' (by simpa using hh)
  have q1 := eq_true (withL_sm (l := b) (ofL_sm a)) (turn1 (ofL a) b k)
  have q2 := eq_true (lessL_sm (l := b) (ofL_sm a)) (turn2 (ofL a) b k)
  have q3 := eq_true (lessL_sm (l := b) (withL_sm (l := b) (ofL_sm a))) (turn3 (ofL a) b)
  have q4 := eq_true (withL_sm (l := b) (lessL_sm (l := b) (ofL_sm a))) (turn4 (ofL a) b)
  have q5 := eq_true (ofL_sm b) (turn5 b k)
  refine Cd.seq ?_
  refine Cd.draw mixed 51 (exIs (fun opNo => match opNo with | 2 => some (.agg (enc (withL (ofL a) b))) | 5 => some (.agg (enc (withL (ofL a) (turned b k)))) | 7 => some (.agg (enc (withL (withL (ofL a) (turned b k)) b))) | 12 => some (.agg (enc (lessL (ofL a) b))) | 15 => some (.agg (enc (lessL (ofL a) (turned b k)))) | 17 => some (.agg (enc (lessL (lessL (ofL a) (turned b k)) b))) | 23 => some (.agg (enc (withL (ofL a) b))) | 25 => some (.agg (enc (lessL (withL (ofL a) b) b))) | 28 => some (.agg (enc (ofL b))) | 29 => some (.agg (enc (less (ofL a) (ofL b)))) | 35 => some (.agg (enc (lessL (ofL a) b))) | 37 => some (.agg (enc (withL (lessL (ofL a) b) b))) | 40 => some (.agg (enc (ofL b))) | 41 => some (.agg (enc (ofL a ||| ofL b))) | 46 => some (.agg (enc (ofL b))) | 48 => some (.agg (enc (ofL (turned b k)))) | _ => none)) (fun _ => []) (by kernel_rfl) exIs_in (fun u hu => ?_)
  refine Wk.p (ldw ag_bits_Set (i := 0) rfl (enc_size _)) ?_
  refine Wk.p mvs ?_
  refine Wk.dk hu (sp_call en_bits_Set_With (fun M w' hh => bits_Set_With_ct (s := ofL a) (l := b) (hb.now hh) hib hlb)) ?_
  refine Wk.p (ldw ag_bits_Set (i := 0) rfl (enc_size _)) ?_
  refine Wk.p mvs ?_
  refine Wk.dk hu (sp_call en_bits_Set_With (fun M w' hh => bits_Set_With_ct (s := ofL a) (l := (turned b k)) (hO9 M w' hh) hio hlo)) ?_
  refine Wk.p mvs ?_
  refine Wk.dk hu (sp_call en_bits_Set_With (fun M w' hh => bits_Set_With_ct (s := withL (ofL a) (turned b k)) (l := b) (hb.now hh) hib hlb)) ?_
  refine Wk.p (eqa cm_bits_Set (enc_size _) (enc_size _) encF_tell q1) ?_
  refine Wk.p mvb ?_
  refine Wk.gp rfl (ldw ag_bits_Set (i := 0) rfl (enc_size _)) ?_
  refine Wk.gp rfl mvs ?_
  refine Wk.gdk hu rfl (sp_call en_bits_Set_Without (fun M w' hh => bits_Set_Without_ct (s := ofL a) (l := b) (hb.now hh) hib hlb)) ?_
  refine Wk.gp rfl (ldw ag_bits_Set (i := 0) rfl (enc_size _)) ?_
  refine Wk.gp rfl mvs ?_
  refine Wk.gdk hu rfl (sp_call en_bits_Set_Without (fun M w' hh => bits_Set_Without_ct (s := ofL a) (l := (turned b k)) (hO9 M w' hh) hio hlo)) ?_
  refine Wk.gp rfl mvs ?_
  refine Wk.gdk hu rfl (sp_call en_bits_Set_Without (fun M w' hh => bits_Set_Without_ct (s := lessL (ofL a) (turned b k)) (l := b) (hb.now hh) hib hlb)) ?_
  refine Wk.gp rfl (eqa cm_bits_Set (enc_size _) (enc_size _) encF_tell q2) ?_
  refine Wk.p (pkTb rfl) ?_
  refine Wk.p mvb ?_
  refine Wk.gp rfl (ldw ag_bits_Set (i := 0) rfl (enc_size _)) ?_
  refine Wk.gp rfl mvs ?_
  refine Wk.gdk hu rfl (sp_call en_bits_Set_With (fun M w' hh => bits_Set_With_ct (s := ofL a) (l := b) (hb.now hh) hib hlb)) ?_
  refine Wk.gp rfl mvs ?_
  refine Wk.gdk hu rfl (sp_call en_bits_Set_Without (fun M w' hh => bits_Set_Without_ct (s := withL (ofL a) b) (l := b) (hb.now hh) hib hlb)) ?_
  refine Wk.gp rfl (ldw ag_bits_Set (i := 0) rfl (enc_size _)) ?_
  refine Wk.gp rfl mvs ?_
  refine Wk.gdk hu rfl (sp_call en_bits_Of (fun M w' hh => bits_Of_ct (l := b) (hb.now hh) hib hlb)) ?_
  refine Wk.gdk hu rfl (sp_call en_bits_Set_Less (fun M w' hh => bits_Set_Less_ct (s := ofL a) (t := ofL b))) ?_
  refine Wk.gp rfl (eqa cm_bits_Set (enc_size _) (enc_size _) encF_tell q3) ?_
  refine Wk.p (pkTb rfl) ?_
  refine Wk.p mvb ?_
  refine Wk.gp rfl (ldw ag_bits_Set (i := 0) rfl (enc_size _)) ?_
  refine Wk.gp rfl mvs ?_
  refine Wk.gdk hu rfl (sp_call en_bits_Set_Without (fun M w' hh => bits_Set_Without_ct (s := ofL a) (l := b) (hb.now hh) hib hlb)) ?_
  refine Wk.gp rfl mvs ?_
  refine Wk.gdk hu rfl (sp_call en_bits_Set_With (fun M w' hh => bits_Set_With_ct (s := lessL (ofL a) b) (l := b) (hb.now hh) hib hlb)) ?_
  refine Wk.gp rfl (ldw ag_bits_Set (i := 0) rfl (enc_size _)) ?_
  refine Wk.gp rfl mvs ?_
  refine Wk.gdk hu rfl (sp_call en_bits_Of (fun M w' hh => bits_Of_ct (l := b) (hb.now hh) hib hlb)) ?_
  refine Wk.gdk hu rfl (sp_call en_bits_Set_Or (fun M w' hh => bits_Set_Or_ct (s := ofL a) (t := ofL b))) ?_
  refine Wk.gp rfl (eqa cm_bits_Set (enc_size _) (enc_size _) encF_tell q4) ?_
  refine Wk.p (pkTb rfl) ?_
  refine Wk.p mvb ?_
  refine Wk.gp rfl mvs ?_
  refine Wk.gdk hu rfl (sp_call en_bits_Of (fun M w' hh => bits_Of_ct (l := b) (hb.now hh) hib hlb)) ?_
  refine Wk.gp rfl mvs ?_
  refine Wk.gdk hu rfl (sp_call en_bits_Of (fun M w' hh => bits_Of_ct (l := turned b k) (hO9 M w' hh) hio hlo)) ?_
  refine Wk.gp rfl (eqa cm_bits_Set (enc_size _) (enc_size _) encF_tell q5) ?_
  refine Wk.p (pkTb rfl) ?_
  refine Wk.nil ?_
  rw [needs_exIs hu rfl]
  refine Ol.p asb ?_
  refine Ol.nil ?_
  refine Cd.ret ⟨.bool _, ret1 rfl rfl, [], .nil, rfl, rfl⟩
end
end Go.Proofs.YtbcnejobnmljlaaDoor
