/- FlowTells (the tied card): for every input that can be read, the law FlowTells returns true and its arguments read as before. Conditions: the row, its listed table of math/bits tied to the text of the program. -/
/- Part 4 of the proof of FlowTellsC: the texts Flat0, Apart, Count, Siz, FlowTells, OpenL, OpenF, FlowTellsC, one behind the other. -/
import Derived.Deep.Slices
import Derived.Test.YtkefmjhagmacfaaGreatDoorCards
import Derived.Test.YtkefmjhagmacfaaGreatDoorTie
import Derived.SevenTiedAt
import Derived.Test.YtkefmjhagmacfaaGreatDoorFlowTellsCM3
/- The kit: lists that lie apart: at no lists, walked. -/
namespace Go.Proofs.YtkefmjhagmacfaaGreatDoor
set_option linter.unusedVariables false
open Go Go.RowKit
set_option maxRecDepth 100000
section
theorem kit_flatLimbs_nil {w : World} : Ct Tryz.prog 89 #[.slice none 0 0] w (Is (.bool true)) := by
  refine Ct.mk Tryz.func89 rfl rfl ?_
  refine Cd.seq ?_
  refine Cd.region ?_
  refine Ol.p asb ?_
  refine Ol.nil ?_
  refine Cd.seq ?_
  refine Cd.seq ?_
  refine Cd.region ?_
  refine Ol.p asi ?_
  refine Ol.nil ?_
  refine Cd.block ?_
  refine Cd.loop (fun m σ L => Has σ [(0, .slice none 0 0), (3, .int .i64 0)] ∧ [] = L) (n := 0) ⟨⟨rfl, rfl, trivial⟩, rfl⟩ ?_
  rintro _ σ L ⟨hs, rfl⟩
  refine Cd.has hs ?_
  clear hs
  refine Cd.seq ?_
  refine Cd.seq ?_
  refine Cd.region ?_
  refine Ol.p mvi ?_
  refine Ol.p mvs ?_
  refine Ol.p (lens sl_L_L_uint32) ?_
  refine Ol.p lsi ?_
  refine Ol.nil ?_
  refine Cd.cond rfl (fun h => absurd h (by decide)) (fun _ => ?_)
  refine Cd.exit (id := 0) ?_
  refine Cd.seq ?_
  refine Cd.region ?_
  refine Ol.p mvs ?_
  refine Ol.p (lens sl_L_L_uint32) ?_
  refine Ol.x (mks (n := 0) (c := 0) sl_L_L_uint32 zr_L_uint32) ?_
  rintro _ _ ⟨gm, rfl, rfl⟩
  refine Ol.p ass ?_
  refine Ol.nil ?_
  obtain ⟨VG, hVG⟩ : ∃ V, V = Value.slice (some ⟨gm, 0, none⟩) 0 0 := ⟨_, rfl⟩
  rw [← hVG]
  obtain ⟨LG, hLG⟩ : ∃ LG : List Res, LG = [row VG 140 1 0 ((madeCells (Value.slice none 0 0).cells (0 * 1)).toList.take (0 * 1))] := ⟨_, rfl⟩
  rw [← hLG]
  refine Cd.seq ?_
  refine Cd.seq ?_
  refine Cd.region ?_
  refine Ol.p asi ?_
  refine Ol.nil ?_
  refine Cd.block ?_
  refine Cd.loop (fun m σ L => Has σ [(0, .slice none 0 0), (5, VG), (6, .int .i64 0)] ∧ LG = L) (n := 0) ⟨⟨rfl, rfl, rfl, trivial⟩, rfl⟩ ?_
  rintro _ σ L ⟨hs, rfl⟩
  refine Cd.has hs ?_
  clear hs
  refine Cd.seq ?_
  refine Cd.seq ?_
  refine Cd.region ?_
  refine Ol.p mvi ?_
  refine Ol.p mvs ?_
  refine Ol.p (lens sl_L_L_uint32) ?_
  refine Ol.p lsi ?_
  refine Ol.nil ?_
  refine Cd.cond rfl (fun h => absurd h (by decide)) (fun _ => ?_)
  refine Cd.exit (id := 4) ?_
  refine Cd.seq ?_
  refine Cd.seq ?_
  refine Cd.region ?_
  refine Ol.p asi ?_
  refine Ol.nil ?_
  refine Cd.block ?_
  refine Cd.loop (fun m σ L => Has σ [(0, .slice none 0 0), (5, VG), (9, .int .i64 0)] ∧ LG = L) (n := 0) ⟨⟨rfl, rfl, rfl, trivial⟩, rfl⟩ ?_
  rintro _ σ L ⟨hs, rfl⟩
  refine Cd.has hs ?_
  clear hs
  refine Cd.seq ?_
  refine Cd.seq ?_
  refine Cd.region ?_
  refine Ol.p mvi ?_
  refine Ol.p mvs ?_
  refine Ol.p (lens sl_L_L_uint32) ?_
  refine Ol.p lsi ?_
  refine Ol.nil ?_
  refine Cd.cond rfl (fun h => absurd h (by decide)) (fun _ => ?_)
  refine Cd.exit (id := 8) ?_
  refine Cd.seq ?_
  refine Cd.seq ?_
  refine Cd.region ?_
  refine Ol.p asi ?_
  refine Ol.nil ?_
  refine Cd.block ?_
  refine Cd.loop (fun m σ L => Has σ [(0, .slice none 0 0), (5, VG), (11, .int .i64 0)] ∧ LG = L) (n := 0) ⟨⟨rfl, rfl, rfl, trivial⟩, rfl⟩ ?_
  rintro _ σ L ⟨hs, rfl⟩
  refine Cd.has hs ?_
  clear hs
  refine Cd.seq ?_
  refine Cd.seq ?_
  refine Cd.region ?_
  refine Ol.p mvi ?_
  refine Ol.p mvs ?_
  refine Ol.p (lens sl_L_L_uint32) ?_
  refine Ol.p lsi ?_
  refine Ol.nil ?_
  refine Cd.cond rfl (fun h => absurd h (by decide)) (fun _ => ?_)
  refine Cd.exit (id := 12) ?_
  refine Cd.seq ?_
  refine Cd.seq ?_
  refine Cd.region ?_
  refine Ol.p asi ?_
  refine Ol.nil ?_
  refine Cd.block ?_
  refine Cd.loop (fun m σ L => Has σ [(0, .slice none 0 0), (5, VG), (14, .int .i64 0)] ∧ LG = L) (n := 0) ⟨⟨rfl, rfl, rfl, trivial⟩, rfl⟩ ?_
  rintro _ σ L ⟨hs, rfl⟩
  refine Cd.has hs ?_
  clear hs
  refine Cd.seq ?_
  refine Cd.seq ?_
  refine Cd.region ?_
  refine Ol.p mvi ?_
  refine Ol.p mvs ?_
  refine Ol.p (lens sl_L_L_uint32) ?_
  refine Ol.p lsi ?_
  refine Ol.nil ?_
  refine Cd.cond rfl (fun h => absurd h (by decide)) (fun _ => ?_)
  refine Cd.exit (id := 16) ?_
  refine Cd.seq ?_
  refine Cd.region ?_
  refine Ol.p asb ?_
  refine Ol.nil ?_
  exact Cd.ret ⟨.bool true, ret1 rfl rfl, [], Keep.nil, rfl, rfl⟩
theorem kit_flatWords_nil {w : World} : Ct Tryz.prog 90 #[.slice none 0 0] w (Is (.bool true)) := by
  refine Ct.mk Tryz.func90 rfl rfl ?_
  refine Cd.seq ?_
  refine Cd.region ?_
  refine Ol.p asb ?_
  refine Ol.nil ?_
  refine Cd.seq ?_
  refine Cd.seq ?_
  refine Cd.region ?_
  refine Ol.p asi ?_
  refine Ol.nil ?_
  refine Cd.block ?_
  refine Cd.loop (fun m σ L => Has σ [(0, .slice none 0 0), (3, .int .i64 0)] ∧ [] = L) (n := 0) ⟨⟨rfl, rfl, trivial⟩, rfl⟩ ?_
  rintro _ σ L ⟨hs, rfl⟩
  refine Cd.has hs ?_
  clear hs
  refine Cd.seq ?_
  refine Cd.seq ?_
  refine Cd.region ?_
  refine Ol.p mvi ?_
  refine Ol.p mvs ?_
  refine Ol.p (lens sl_L_L_uint64) ?_
  refine Ol.p lsi ?_
  refine Ol.nil ?_
  refine Cd.cond rfl (fun h => absurd h (by decide)) (fun _ => ?_)
  refine Cd.exit (id := 0) ?_
  refine Cd.seq ?_
  refine Cd.region ?_
  refine Ol.p mvs ?_
  refine Ol.p (lens sl_L_L_uint64) ?_
  refine Ol.x (mks (n := 0) (c := 0) sl_L_L_uint64 zr_L_uint64) ?_
  rintro _ _ ⟨gm, rfl, rfl⟩
  refine Ol.p ass ?_
  refine Ol.nil ?_
  obtain ⟨VG, hVG⟩ : ∃ V, V = Value.slice (some ⟨gm, 0, none⟩) 0 0 := ⟨_, rfl⟩
  rw [← hVG]
  obtain ⟨LG, hLG⟩ : ∃ LG : List Res, LG = [row VG 142 1 0 ((madeCells (Value.slice none 0 0).cells (0 * 1)).toList.take (0 * 1))] := ⟨_, rfl⟩
  rw [← hLG]
  refine Cd.seq ?_
  refine Cd.seq ?_
  refine Cd.region ?_
  refine Ol.p asi ?_
  refine Ol.nil ?_
  refine Cd.block ?_
  refine Cd.loop (fun m σ L => Has σ [(0, .slice none 0 0), (5, VG), (6, .int .i64 0)] ∧ LG = L) (n := 0) ⟨⟨rfl, rfl, rfl, trivial⟩, rfl⟩ ?_
  rintro _ σ L ⟨hs, rfl⟩
  refine Cd.has hs ?_
  clear hs
  refine Cd.seq ?_
  refine Cd.seq ?_
  refine Cd.region ?_
  refine Ol.p mvi ?_
  refine Ol.p mvs ?_
  refine Ol.p (lens sl_L_L_uint64) ?_
  refine Ol.p lsi ?_
  refine Ol.nil ?_
  refine Cd.cond rfl (fun h => absurd h (by decide)) (fun _ => ?_)
  refine Cd.exit (id := 4) ?_
  refine Cd.seq ?_
  refine Cd.seq ?_
  refine Cd.region ?_
  refine Ol.p asi ?_
  refine Ol.nil ?_
  refine Cd.block ?_
  refine Cd.loop (fun m σ L => Has σ [(0, .slice none 0 0), (5, VG), (9, .int .i64 0)] ∧ LG = L) (n := 0) ⟨⟨rfl, rfl, rfl, trivial⟩, rfl⟩ ?_
  rintro _ σ L ⟨hs, rfl⟩
  refine Cd.has hs ?_
  clear hs
  refine Cd.seq ?_
  refine Cd.seq ?_
  refine Cd.region ?_
  refine Ol.p mvi ?_
  refine Ol.p mvs ?_
  refine Ol.p (lens sl_L_L_uint64) ?_
  refine Ol.p lsi ?_
  refine Ol.nil ?_
  refine Cd.cond rfl (fun h => absurd h (by decide)) (fun _ => ?_)
  refine Cd.exit (id := 8) ?_
  refine Cd.seq ?_
  refine Cd.seq ?_
  refine Cd.region ?_
  refine Ol.p asi ?_
  refine Ol.nil ?_
  refine Cd.block ?_
  refine Cd.loop (fun m σ L => Has σ [(0, .slice none 0 0), (5, VG), (11, .int .i64 0)] ∧ LG = L) (n := 0) ⟨⟨rfl, rfl, rfl, trivial⟩, rfl⟩ ?_
  rintro _ σ L ⟨hs, rfl⟩
  refine Cd.has hs ?_
  clear hs
  refine Cd.seq ?_
  refine Cd.seq ?_
  refine Cd.region ?_
  refine Ol.p mvi ?_
  refine Ol.p mvs ?_
  refine Ol.p (lens sl_L_L_uint64) ?_
  refine Ol.p lsi ?_
  refine Ol.nil ?_
  refine Cd.cond rfl (fun h => absurd h (by decide)) (fun _ => ?_)
  refine Cd.exit (id := 12) ?_
  refine Cd.seq ?_
  refine Cd.seq ?_
  refine Cd.region ?_
  refine Ol.p asi ?_
  refine Ol.nil ?_
  refine Cd.block ?_
  refine Cd.loop (fun m σ L => Has σ [(0, .slice none 0 0), (5, VG), (14, .int .i64 0)] ∧ LG = L) (n := 0) ⟨⟨rfl, rfl, rfl, trivial⟩, rfl⟩ ?_
  rintro _ σ L ⟨hs, rfl⟩
  refine Cd.has hs ?_
  clear hs
  refine Cd.seq ?_
  refine Cd.seq ?_
  refine Cd.region ?_
  refine Ol.p mvi ?_
  refine Ol.p mvs ?_
  refine Ol.p (lens sl_L_L_uint64) ?_
  refine Ol.p lsi ?_
  refine Ol.nil ?_
  refine Cd.cond rfl (fun h => absurd h (by decide)) (fun _ => ?_)
  refine Cd.exit (id := 16) ?_
  refine Cd.seq ?_
  refine Cd.region ?_
  refine Ol.p asb ?_
  refine Ol.nil ?_
  exact Cd.ret ⟨.bool true, ret1 rfl rfl, [], Keep.nil, rfl, rfl⟩
theorem kit_flatLongs_nil {w : World} : Ct Tryz.prog 92 #[.slice none 0 0] w (Is (.bool true)) := by
  refine Ct.mk Tryz.func92 rfl rfl ?_
  refine Cd.seq ?_
  refine Cd.region ?_
  refine Ol.p asb ?_
  refine Ol.nil ?_
  refine Cd.seq ?_
  refine Cd.seq ?_
  refine Cd.region ?_
  refine Ol.p asi ?_
  refine Ol.nil ?_
  refine Cd.block ?_
  refine Cd.loop (fun m σ L => Has σ [(0, .slice none 0 0), (3, .int .i64 0)] ∧ [] = L) (n := 0) ⟨⟨rfl, rfl, trivial⟩, rfl⟩ ?_
  rintro _ σ L ⟨hs, rfl⟩
  refine Cd.has hs ?_
  clear hs
  refine Cd.seq ?_
  refine Cd.seq ?_
  refine Cd.region ?_
  refine Ol.p mvi ?_
  refine Ol.p mvs ?_
  refine Ol.p (lens sl_L_L_int64) ?_
  refine Ol.p lsi ?_
  refine Ol.nil ?_
  refine Cd.cond rfl (fun h => absurd h (by decide)) (fun _ => ?_)
  refine Cd.exit (id := 0) ?_
  refine Cd.seq ?_
  refine Cd.region ?_
  refine Ol.p mvs ?_
  refine Ol.p (lens sl_L_L_int64) ?_
  refine Ol.x (mks (n := 0) (c := 0) sl_L_L_int64 zr_L_int64) ?_
  rintro _ _ ⟨gm, rfl, rfl⟩
  refine Ol.p ass ?_
  refine Ol.nil ?_
  obtain ⟨VG, hVG⟩ : ∃ V, V = Value.slice (some ⟨gm, 0, none⟩) 0 0 := ⟨_, rfl⟩
  rw [← hVG]
  obtain ⟨LG, hLG⟩ : ∃ LG : List Res, LG = [row VG 143 1 0 ((madeCells (Value.slice none 0 0).cells (0 * 1)).toList.take (0 * 1))] := ⟨_, rfl⟩
  rw [← hLG]
  refine Cd.seq ?_
  refine Cd.seq ?_
  refine Cd.region ?_
  refine Ol.p asi ?_
  refine Ol.nil ?_
  refine Cd.block ?_
  refine Cd.loop (fun m σ L => Has σ [(0, .slice none 0 0), (5, VG), (6, .int .i64 0)] ∧ LG = L) (n := 0) ⟨⟨rfl, rfl, rfl, trivial⟩, rfl⟩ ?_
  rintro _ σ L ⟨hs, rfl⟩
  refine Cd.has hs ?_
  clear hs
  refine Cd.seq ?_
  refine Cd.seq ?_
  refine Cd.region ?_
  refine Ol.p mvi ?_
  refine Ol.p mvs ?_
  refine Ol.p (lens sl_L_L_int64) ?_
  refine Ol.p lsi ?_
  refine Ol.nil ?_
  refine Cd.cond rfl (fun h => absurd h (by decide)) (fun _ => ?_)
  refine Cd.exit (id := 4) ?_
  refine Cd.seq ?_
  refine Cd.seq ?_
  refine Cd.region ?_
  refine Ol.p asi ?_
  refine Ol.nil ?_
  refine Cd.block ?_
  refine Cd.loop (fun m σ L => Has σ [(0, .slice none 0 0), (5, VG), (9, .int .i64 0)] ∧ LG = L) (n := 0) ⟨⟨rfl, rfl, rfl, trivial⟩, rfl⟩ ?_
  rintro _ σ L ⟨hs, rfl⟩
  refine Cd.has hs ?_
  clear hs
  refine Cd.seq ?_
  refine Cd.seq ?_
  refine Cd.region ?_
  refine Ol.p mvi ?_
  refine Ol.p mvs ?_
  refine Ol.p (lens sl_L_L_int64) ?_
  refine Ol.p lsi ?_
  refine Ol.nil ?_
  refine Cd.cond rfl (fun h => absurd h (by decide)) (fun _ => ?_)
  refine Cd.exit (id := 8) ?_
  refine Cd.seq ?_
  refine Cd.seq ?_
  refine Cd.region ?_
  refine Ol.p asi ?_
  refine Ol.nil ?_
  refine Cd.block ?_
  refine Cd.loop (fun m σ L => Has σ [(0, .slice none 0 0), (5, VG), (11, .int .i64 0)] ∧ LG = L) (n := 0) ⟨⟨rfl, rfl, rfl, trivial⟩, rfl⟩ ?_
  rintro _ σ L ⟨hs, rfl⟩
  refine Cd.has hs ?_
  clear hs
  refine Cd.seq ?_
  refine Cd.seq ?_
  refine Cd.region ?_
  refine Ol.p mvi ?_
  refine Ol.p mvs ?_
  refine Ol.p (lens sl_L_L_int64) ?_
  refine Ol.p lsi ?_
  refine Ol.nil ?_
  refine Cd.cond rfl (fun h => absurd h (by decide)) (fun _ => ?_)
  refine Cd.exit (id := 12) ?_
  refine Cd.seq ?_
  refine Cd.seq ?_
  refine Cd.region ?_
  refine Ol.p asi ?_
  refine Ol.nil ?_
  refine Cd.block ?_
  refine Cd.loop (fun m σ L => Has σ [(0, .slice none 0 0), (5, VG), (14, .int .i64 0)] ∧ LG = L) (n := 0) ⟨⟨rfl, rfl, rfl, trivial⟩, rfl⟩ ?_
  rintro _ σ L ⟨hs, rfl⟩
  refine Cd.has hs ?_
  clear hs
  refine Cd.seq ?_
  refine Cd.seq ?_
  refine Cd.region ?_
  refine Ol.p mvi ?_
  refine Ol.p mvs ?_
  refine Ol.p (lens sl_L_L_int64) ?_
  refine Ol.p lsi ?_
  refine Ol.nil ?_
  refine Cd.cond rfl (fun h => absurd h (by decide)) (fun _ => ?_)
  refine Cd.exit (id := 16) ?_
  refine Cd.seq ?_
  refine Cd.region ?_
  refine Ol.p asb ?_
  refine Ol.nil ?_
  exact Cd.ret ⟨.bool true, ret1 rfl rfl, [], Keep.nil, rfl, rfl⟩
theorem kit_flatTexts_nil {w : World} : Ct Tryz.prog 93 #[.slice none 0 0] w (Is (.bool true)) := by
  refine Ct.mk Tryz.func93 rfl rfl ?_
  refine Cd.seq ?_
  refine Cd.region ?_
  refine Ol.p asb ?_
  refine Ol.nil ?_
  refine Cd.seq ?_
  refine Cd.seq ?_
  refine Cd.region ?_
  refine Ol.p asi ?_
  refine Ol.nil ?_
  refine Cd.block ?_
  refine Cd.loop (fun m σ L => Has σ [(0, .slice none 0 0), (3, .int .i64 0)] ∧ [] = L) (n := 0) ⟨⟨rfl, rfl, trivial⟩, rfl⟩ ?_
  rintro _ σ L ⟨hs, rfl⟩
  refine Cd.has hs ?_
  clear hs
  refine Cd.seq ?_
  refine Cd.seq ?_
  refine Cd.region ?_
  refine Ol.p mvi ?_
  refine Ol.p mvs ?_
  refine Ol.p (lens sl_L_L_string) ?_
  refine Ol.p lsi ?_
  refine Ol.nil ?_
  refine Cd.cond rfl (fun h => absurd h (by decide)) (fun _ => ?_)
  refine Cd.exit (id := 0) ?_
  refine Cd.seq ?_
  refine Cd.region ?_
  refine Ol.p mvs ?_
  refine Ol.p (lens sl_L_L_string) ?_
  refine Ol.x (mks (n := 0) (c := 0) sl_L_L_string zr_L_string) ?_
  rintro _ _ ⟨gm, rfl, rfl⟩
  refine Ol.p ass ?_
  refine Ol.nil ?_
  obtain ⟨VG, hVG⟩ : ∃ V, V = Value.slice (some ⟨gm, 0, none⟩) 0 0 := ⟨_, rfl⟩
  rw [← hVG]
  obtain ⟨LG, hLG⟩ : ∃ LG : List Res, LG = [row VG 144 1 0 ((madeCells (Value.slice none 0 0).cells (0 * 1)).toList.take (0 * 1))] := ⟨_, rfl⟩
  rw [← hLG]
  refine Cd.seq ?_
  refine Cd.seq ?_
  refine Cd.region ?_
  refine Ol.p asi ?_
  refine Ol.nil ?_
  refine Cd.block ?_
  refine Cd.loop (fun m σ L => Has σ [(0, .slice none 0 0), (5, VG), (6, .int .i64 0)] ∧ LG = L) (n := 0) ⟨⟨rfl, rfl, rfl, trivial⟩, rfl⟩ ?_
  rintro _ σ L ⟨hs, rfl⟩
  refine Cd.has hs ?_
  clear hs
  refine Cd.seq ?_
  refine Cd.seq ?_
  refine Cd.region ?_
  refine Ol.p mvi ?_
  refine Ol.p mvs ?_
  refine Ol.p (lens sl_L_L_string) ?_
  refine Ol.p lsi ?_
  refine Ol.nil ?_
  refine Cd.cond rfl (fun h => absurd h (by decide)) (fun _ => ?_)
  refine Cd.exit (id := 4) ?_
  refine Cd.seq ?_
  refine Cd.seq ?_
  refine Cd.region ?_
  refine Ol.p asi ?_
  refine Ol.nil ?_
  refine Cd.block ?_
  refine Cd.loop (fun m σ L => Has σ [(0, .slice none 0 0), (5, VG), (9, .int .i64 0)] ∧ LG = L) (n := 0) ⟨⟨rfl, rfl, rfl, trivial⟩, rfl⟩ ?_
  rintro _ σ L ⟨hs, rfl⟩
  refine Cd.has hs ?_
  clear hs
  refine Cd.seq ?_
  refine Cd.seq ?_
  refine Cd.region ?_
  refine Ol.p mvi ?_
  refine Ol.p mvs ?_
  refine Ol.p (lens sl_L_L_string) ?_
  refine Ol.p lsi ?_
  refine Ol.nil ?_
  refine Cd.cond rfl (fun h => absurd h (by decide)) (fun _ => ?_)
  refine Cd.exit (id := 8) ?_
  refine Cd.seq ?_
  refine Cd.seq ?_
  refine Cd.region ?_
  refine Ol.p asi ?_
  refine Ol.nil ?_
  refine Cd.block ?_
  refine Cd.loop (fun m σ L => Has σ [(0, .slice none 0 0), (5, VG), (11, .int .i64 0)] ∧ LG = L) (n := 0) ⟨⟨rfl, rfl, rfl, trivial⟩, rfl⟩ ?_
  rintro _ σ L ⟨hs, rfl⟩
  refine Cd.has hs ?_
  clear hs
  refine Cd.seq ?_
  refine Cd.seq ?_
  refine Cd.region ?_
  refine Ol.p mvi ?_
  refine Ol.p mvs ?_
  refine Ol.p (lens sl_L_L_string) ?_
  refine Ol.p lsi ?_
  refine Ol.nil ?_
  refine Cd.cond rfl (fun h => absurd h (by decide)) (fun _ => ?_)
  refine Cd.exit (id := 12) ?_
  refine Cd.seq ?_
  refine Cd.seq ?_
  refine Cd.region ?_
  refine Ol.p asi ?_
  refine Ol.nil ?_
  refine Cd.block ?_
  refine Cd.loop (fun m σ L => Has σ [(0, .slice none 0 0), (5, VG), (14, .int .i64 0)] ∧ LG = L) (n := 0) ⟨⟨rfl, rfl, rfl, trivial⟩, rfl⟩ ?_
  rintro _ σ L ⟨hs, rfl⟩
  refine Cd.has hs ?_
  clear hs
  refine Cd.seq ?_
  refine Cd.seq ?_
  refine Cd.region ?_
  refine Ol.p mvi ?_
  refine Ol.p mvs ?_
  refine Ol.p (lens sl_L_L_string) ?_
  refine Ol.p lsi ?_
  refine Ol.nil ?_
  refine Cd.cond rfl (fun h => absurd h (by decide)) (fun _ => ?_)
  refine Cd.exit (id := 16) ?_
  refine Cd.seq ?_
  refine Cd.region ?_
  refine Ol.p asb ?_
  refine Ol.nil ?_
  exact Cd.ret ⟨.bool true, ret1 rfl rfl, [], Keep.nil, rfl, rfl⟩
theorem kit_flatBytes_nil {w : World} : Ct Tryz.prog 94 #[.slice none 0 0] w (Is (.bool true)) := by
  refine Ct.mk Tryz.func94 rfl rfl ?_
  refine Cd.seq ?_
  refine Cd.region ?_
  refine Ol.p asb ?_
  refine Ol.nil ?_
  refine Cd.seq ?_
  refine Cd.seq ?_
  refine Cd.region ?_
  refine Ol.p asi ?_
  refine Ol.nil ?_
  refine Cd.block ?_
  refine Cd.loop (fun m σ L => Has σ [(0, .slice none 0 0), (3, .int .i64 0)] ∧ [] = L) (n := 0) ⟨⟨rfl, rfl, trivial⟩, rfl⟩ ?_
  rintro _ σ L ⟨hs, rfl⟩
  refine Cd.has hs ?_
  clear hs
  refine Cd.seq ?_
  refine Cd.seq ?_
  refine Cd.region ?_
  refine Ol.p mvi ?_
  refine Ol.p mvs ?_
  refine Ol.p (lens sl_L_L_uint8) ?_
  refine Ol.p lsi ?_
  refine Ol.nil ?_
  refine Cd.cond rfl (fun h => absurd h (by decide)) (fun _ => ?_)
  refine Cd.exit (id := 0) ?_
  refine Cd.seq ?_
  refine Cd.region ?_
  refine Ol.p mvs ?_
  refine Ol.p (lens sl_L_L_uint8) ?_
  refine Ol.x (mks (n := 0) (c := 0) sl_L_L_uint8 zr_L_uint8) ?_
  rintro _ _ ⟨gm, rfl, rfl⟩
  refine Ol.p ass ?_
  refine Ol.nil ?_
  obtain ⟨VG, hVG⟩ : ∃ V, V = Value.slice (some ⟨gm, 0, none⟩) 0 0 := ⟨_, rfl⟩
  rw [← hVG]
  obtain ⟨LG, hLG⟩ : ∃ LG : List Res, LG = [row VG 146 1 0 ((madeCells (Value.slice none 0 0).cells (0 * 1)).toList.take (0 * 1))] := ⟨_, rfl⟩
  rw [← hLG]
  refine Cd.seq ?_
  refine Cd.seq ?_
  refine Cd.region ?_
  refine Ol.p asi ?_
  refine Ol.nil ?_
  refine Cd.block ?_
  refine Cd.loop (fun m σ L => Has σ [(0, .slice none 0 0), (5, VG), (6, .int .i64 0)] ∧ LG = L) (n := 0) ⟨⟨rfl, rfl, rfl, trivial⟩, rfl⟩ ?_
  rintro _ σ L ⟨hs, rfl⟩
  refine Cd.has hs ?_
  clear hs
  refine Cd.seq ?_
  refine Cd.seq ?_
  refine Cd.region ?_
  refine Ol.p mvi ?_
  refine Ol.p mvs ?_
  refine Ol.p (lens sl_L_L_uint8) ?_
  refine Ol.p lsi ?_
  refine Ol.nil ?_
  refine Cd.cond rfl (fun h => absurd h (by decide)) (fun _ => ?_)
  refine Cd.exit (id := 4) ?_
  refine Cd.seq ?_
  refine Cd.seq ?_
  refine Cd.region ?_
  refine Ol.p asi ?_
  refine Ol.nil ?_
  refine Cd.block ?_
  refine Cd.loop (fun m σ L => Has σ [(0, .slice none 0 0), (5, VG), (9, .int .i64 0)] ∧ LG = L) (n := 0) ⟨⟨rfl, rfl, rfl, trivial⟩, rfl⟩ ?_
  rintro _ σ L ⟨hs, rfl⟩
  refine Cd.has hs ?_
  clear hs
  refine Cd.seq ?_
  refine Cd.seq ?_
  refine Cd.region ?_
  refine Ol.p mvi ?_
  refine Ol.p mvs ?_
  refine Ol.p (lens sl_L_L_uint8) ?_
  refine Ol.p lsi ?_
  refine Ol.nil ?_
  refine Cd.cond rfl (fun h => absurd h (by decide)) (fun _ => ?_)
  refine Cd.exit (id := 8) ?_
  refine Cd.seq ?_
  refine Cd.seq ?_
  refine Cd.region ?_
  refine Ol.p asi ?_
  refine Ol.nil ?_
  refine Cd.block ?_
  refine Cd.loop (fun m σ L => Has σ [(0, .slice none 0 0), (5, VG), (11, .int .i64 0)] ∧ LG = L) (n := 0) ⟨⟨rfl, rfl, rfl, trivial⟩, rfl⟩ ?_
  rintro _ σ L ⟨hs, rfl⟩
  refine Cd.has hs ?_
  clear hs
  refine Cd.seq ?_
  refine Cd.seq ?_
  refine Cd.region ?_
  refine Ol.p mvi ?_
  refine Ol.p mvs ?_
  refine Ol.p (lens sl_L_L_uint8) ?_
  refine Ol.p lsi ?_
  refine Ol.nil ?_
  refine Cd.cond rfl (fun h => absurd h (by decide)) (fun _ => ?_)
  refine Cd.exit (id := 12) ?_
  refine Cd.seq ?_
  refine Cd.seq ?_
  refine Cd.region ?_
  refine Ol.p asi ?_
  refine Ol.nil ?_
  refine Cd.block ?_
  refine Cd.loop (fun m σ L => Has σ [(0, .slice none 0 0), (5, VG), (14, .int .i64 0)] ∧ LG = L) (n := 0) ⟨⟨rfl, rfl, rfl, trivial⟩, rfl⟩ ?_
  rintro _ σ L ⟨hs, rfl⟩
  refine Cd.has hs ?_
  clear hs
  refine Cd.seq ?_
  refine Cd.seq ?_
  refine Cd.region ?_
  refine Ol.p mvi ?_
  refine Ol.p mvs ?_
  refine Ol.p (lens sl_L_L_uint8) ?_
  refine Ol.p lsi ?_
  refine Ol.nil ?_
  refine Cd.cond rfl (fun h => absurd h (by decide)) (fun _ => ?_)
  refine Cd.exit (id := 16) ?_
  refine Cd.seq ?_
  refine Cd.region ?_
  refine Ol.p asb ?_
  refine Ol.nil ?_
  exact Cd.ret ⟨.bool true, ret1 rfl rfl, [], Keep.nil, rfl, rfl⟩
theorem kit_flatTruths_nil {w : World} : Ct Tryz.prog 95 #[.slice none 0 0] w (Is (.bool true)) := by
  refine Ct.mk Tryz.func95 rfl rfl ?_
  refine Cd.seq ?_
  refine Cd.region ?_
  refine Ol.p asb ?_
  refine Ol.nil ?_
  refine Cd.seq ?_
  refine Cd.seq ?_
  refine Cd.region ?_
  refine Ol.p asi ?_
  refine Ol.nil ?_
  refine Cd.block ?_
  refine Cd.loop (fun m σ L => Has σ [(0, .slice none 0 0), (3, .int .i64 0)] ∧ [] = L) (n := 0) ⟨⟨rfl, rfl, trivial⟩, rfl⟩ ?_
  rintro _ σ L ⟨hs, rfl⟩
  refine Cd.has hs ?_
  clear hs
  refine Cd.seq ?_
  refine Cd.seq ?_
  refine Cd.region ?_
  refine Ol.p mvi ?_
  refine Ol.p mvs ?_
  refine Ol.p (lens sl_L_L_bool) ?_
  refine Ol.p lsi ?_
  refine Ol.nil ?_
  refine Cd.cond rfl (fun h => absurd h (by decide)) (fun _ => ?_)
  refine Cd.exit (id := 0) ?_
  refine Cd.seq ?_
  refine Cd.region ?_
  refine Ol.p mvs ?_
  refine Ol.p (lens sl_L_L_bool) ?_
  refine Ol.x (mks (n := 0) (c := 0) sl_L_L_bool zr_L_bool) ?_
  rintro _ _ ⟨gm, rfl, rfl⟩
  refine Ol.p ass ?_
  refine Ol.nil ?_
  obtain ⟨VG, hVG⟩ : ∃ V, V = Value.slice (some ⟨gm, 0, none⟩) 0 0 := ⟨_, rfl⟩
  rw [← hVG]
  obtain ⟨LG, hLG⟩ : ∃ LG : List Res, LG = [row VG 79 1 0 ((madeCells (Value.slice none 0 0).cells (0 * 1)).toList.take (0 * 1))] := ⟨_, rfl⟩
  rw [← hLG]
  refine Cd.seq ?_
  refine Cd.seq ?_
  refine Cd.region ?_
  refine Ol.p asi ?_
  refine Ol.nil ?_
  refine Cd.block ?_
  refine Cd.loop (fun m σ L => Has σ [(0, .slice none 0 0), (5, VG), (6, .int .i64 0)] ∧ LG = L) (n := 0) ⟨⟨rfl, rfl, rfl, trivial⟩, rfl⟩ ?_
  rintro _ σ L ⟨hs, rfl⟩
  refine Cd.has hs ?_
  clear hs
  refine Cd.seq ?_
  refine Cd.seq ?_
  refine Cd.region ?_
  refine Ol.p mvi ?_
  refine Ol.p mvs ?_
  refine Ol.p (lens sl_L_L_bool) ?_
  refine Ol.p lsi ?_
  refine Ol.nil ?_
  refine Cd.cond rfl (fun h => absurd h (by decide)) (fun _ => ?_)
  refine Cd.exit (id := 4) ?_
  refine Cd.seq ?_
  refine Cd.seq ?_
  refine Cd.region ?_
  refine Ol.p asi ?_
  refine Ol.nil ?_
  refine Cd.block ?_
  refine Cd.loop (fun m σ L => Has σ [(0, .slice none 0 0), (5, VG), (9, .int .i64 0)] ∧ LG = L) (n := 0) ⟨⟨rfl, rfl, rfl, trivial⟩, rfl⟩ ?_
  rintro _ σ L ⟨hs, rfl⟩
  refine Cd.has hs ?_
  clear hs
  refine Cd.seq ?_
  refine Cd.seq ?_
  refine Cd.region ?_
  refine Ol.p mvi ?_
  refine Ol.p mvs ?_
  refine Ol.p (lens sl_L_L_bool) ?_
  refine Ol.p lsi ?_
  refine Ol.nil ?_
  refine Cd.cond rfl (fun h => absurd h (by decide)) (fun _ => ?_)
  refine Cd.exit (id := 8) ?_
  refine Cd.seq ?_
  refine Cd.seq ?_
  refine Cd.region ?_
  refine Ol.p asi ?_
  refine Ol.nil ?_
  refine Cd.block ?_
  refine Cd.loop (fun m σ L => Has σ [(0, .slice none 0 0), (5, VG), (11, .int .i64 0)] ∧ LG = L) (n := 0) ⟨⟨rfl, rfl, rfl, trivial⟩, rfl⟩ ?_
  rintro _ σ L ⟨hs, rfl⟩
  refine Cd.has hs ?_
  clear hs
  refine Cd.seq ?_
  refine Cd.seq ?_
  refine Cd.region ?_
  refine Ol.p mvi ?_
  refine Ol.p mvs ?_
  refine Ol.p (lens sl_L_L_bool) ?_
  refine Ol.p lsi ?_
  refine Ol.nil ?_
  refine Cd.cond rfl (fun h => absurd h (by decide)) (fun _ => ?_)
  refine Cd.exit (id := 12) ?_
  refine Cd.seq ?_
  refine Cd.seq ?_
  refine Cd.region ?_
  refine Ol.p asi ?_
  refine Ol.nil ?_
  refine Cd.block ?_
  refine Cd.loop (fun m σ L => Has σ [(0, .slice none 0 0), (5, VG), (14, .int .i64 0)] ∧ LG = L) (n := 0) ⟨⟨rfl, rfl, rfl, trivial⟩, rfl⟩ ?_
  rintro _ σ L ⟨hs, rfl⟩
  refine Cd.has hs ?_
  clear hs
  refine Cd.seq ?_
  refine Cd.seq ?_
  refine Cd.region ?_
  refine Ol.p mvi ?_
  refine Ol.p mvs ?_
  refine Ol.p (lens sl_L_L_bool) ?_
  refine Ol.p lsi ?_
  refine Ol.nil ?_
  refine Cd.cond rfl (fun h => absurd h (by decide)) (fun _ => ?_)
  refine Cd.exit (id := 16) ?_
  refine Cd.seq ?_
  refine Cd.region ?_
  refine Ol.p asb ?_
  refine Ol.nil ?_
  exact Cd.ret ⟨.bool true, ret1 rfl rfl, [], Keep.nil, rfl, rfl⟩
theorem kit_flatRow_nil {w : World} : Ct Tryz.prog 96 #[.slice none 0 0] w (Is (.bool true)) := by
  refine Ct.mk Tryz.func96 rfl rfl ?_
  refine Cd.seq ?_
  refine Cd.region ?_
  refine Ol.p asb ?_
  refine Ol.nil ?_
  refine Cd.seq ?_
  refine Cd.seq ?_
  refine Cd.region ?_
  refine Ol.p asi ?_
  refine Ol.nil ?_
  refine Cd.block ?_
  refine Cd.loop (fun m σ L => Has σ [(0, .slice none 0 0), (3, .int .i64 0)] ∧ [] = L) (n := 0) ⟨⟨rfl, rfl, trivial⟩, rfl⟩ ?_
  rintro _ σ L ⟨hs, rfl⟩
  refine Cd.has hs ?_
  clear hs
  refine Cd.seq ?_
  refine Cd.seq ?_
  refine Cd.region ?_
  refine Ol.p mvi ?_
  refine Ol.p mvs ?_
  refine Ol.p (lens sl_L_L_api_Ins) ?_
  refine Ol.p lsi ?_
  refine Ol.nil ?_
  refine Cd.cond rfl (fun h => absurd h (by decide)) (fun _ => ?_)
  refine Cd.exit (id := 0) ?_
  refine Cd.seq ?_
  refine Cd.region ?_
  refine Ol.p mvs ?_
  refine Ol.p (lens sl_L_L_api_Ins) ?_
  refine Ol.x (mks (n := 0) (c := 0) sl_L_L_api_Ins zr_L_api_Ins) ?_
  rintro _ _ ⟨gm, rfl, rfl⟩
  refine Ol.p ass ?_
  refine Ol.nil ?_
  obtain ⟨VG, hVG⟩ : ∃ V, V = Value.slice (some ⟨gm, 0, none⟩) 0 0 := ⟨_, rfl⟩
  rw [← hVG]
  obtain ⟨LG, hLG⟩ : ∃ LG : List Res, LG = [row VG 43 1 0 ((madeCells (Value.slice none 0 0).cells (0 * 1)).toList.take (0 * 1))] := ⟨_, rfl⟩
  rw [← hLG]
  refine Cd.seq ?_
  refine Cd.seq ?_
  refine Cd.region ?_
  refine Ol.p asi ?_
  refine Ol.nil ?_
  refine Cd.block ?_
  refine Cd.loop (fun m σ L => Has σ [(0, .slice none 0 0), (5, VG), (6, .int .i64 0)] ∧ LG = L) (n := 0) ⟨⟨rfl, rfl, rfl, trivial⟩, rfl⟩ ?_
  rintro _ σ L ⟨hs, rfl⟩
  refine Cd.has hs ?_
  clear hs
  refine Cd.seq ?_
  refine Cd.seq ?_
  refine Cd.region ?_
  refine Ol.p mvi ?_
  refine Ol.p mvs ?_
  refine Ol.p (lens sl_L_L_api_Ins) ?_
  refine Ol.p lsi ?_
  refine Ol.nil ?_
  refine Cd.cond rfl (fun h => absurd h (by decide)) (fun _ => ?_)
  refine Cd.exit (id := 4) ?_
  refine Cd.seq ?_
  refine Cd.seq ?_
  refine Cd.region ?_
  refine Ol.p asi ?_
  refine Ol.nil ?_
  refine Cd.block ?_
  refine Cd.loop (fun m σ L => Has σ [(0, .slice none 0 0), (5, VG), (9, .int .i64 0)] ∧ LG = L) (n := 0) ⟨⟨rfl, rfl, rfl, trivial⟩, rfl⟩ ?_
  rintro _ σ L ⟨hs, rfl⟩
  refine Cd.has hs ?_
  clear hs
  refine Cd.seq ?_
  refine Cd.seq ?_
  refine Cd.region ?_
  refine Ol.p mvi ?_
  refine Ol.p mvs ?_
  refine Ol.p (lens sl_L_L_api_Ins) ?_
  refine Ol.p lsi ?_
  refine Ol.nil ?_
  refine Cd.cond rfl (fun h => absurd h (by decide)) (fun _ => ?_)
  refine Cd.exit (id := 8) ?_
  refine Cd.seq ?_
  refine Cd.seq ?_
  refine Cd.region ?_
  refine Ol.p asi ?_
  refine Ol.nil ?_
  refine Cd.block ?_
  refine Cd.loop (fun m σ L => Has σ [(0, .slice none 0 0), (5, VG), (11, .int .i64 0)] ∧ LG = L) (n := 0) ⟨⟨rfl, rfl, rfl, trivial⟩, rfl⟩ ?_
  rintro _ σ L ⟨hs, rfl⟩
  refine Cd.has hs ?_
  clear hs
  refine Cd.seq ?_
  refine Cd.seq ?_
  refine Cd.region ?_
  refine Ol.p mvi ?_
  refine Ol.p mvs ?_
  refine Ol.p (lens sl_L_L_api_Ins) ?_
  refine Ol.p lsi ?_
  refine Ol.nil ?_
  refine Cd.cond rfl (fun h => absurd h (by decide)) (fun _ => ?_)
  refine Cd.exit (id := 12) ?_
  refine Cd.seq ?_
  refine Cd.seq ?_
  refine Cd.region ?_
  refine Ol.p asi ?_
  refine Ol.nil ?_
  refine Cd.block ?_
  refine Cd.loop (fun m σ L => Has σ [(0, .slice none 0 0), (5, VG), (14, .int .i64 0)] ∧ LG = L) (n := 0) ⟨⟨rfl, rfl, rfl, trivial⟩, rfl⟩ ?_
  rintro _ σ L ⟨hs, rfl⟩
  refine Cd.has hs ?_
  clear hs
  refine Cd.seq ?_
  refine Cd.seq ?_
  refine Cd.region ?_
  refine Ol.p mvi ?_
  refine Ol.p mvs ?_
  refine Ol.p (lens sl_L_L_api_Ins) ?_
  refine Ol.p lsi ?_
  refine Ol.nil ?_
  refine Cd.cond rfl (fun h => absurd h (by decide)) (fun _ => ?_)
  refine Cd.exit (id := 16) ?_
  refine Cd.seq ?_
  refine Cd.region ?_
  refine Ol.p asb ?_
  refine Ol.nil ?_
  exact Cd.ret ⟨.bool true, ret1 rfl rfl, [], Keep.nil, rfl, rfl⟩
theorem kit_flatBlocks_nil {w : World} : Ct Tryz.prog 97 #[.slice none 0 0] w (Is (.bool true)) := by
  refine Ct.mk Tryz.func97 rfl rfl ?_
  refine Cd.seq ?_
  refine Cd.region ?_
  refine Ol.p asb ?_
  refine Ol.nil ?_
  refine Cd.seq ?_
  refine Cd.seq ?_
  refine Cd.region ?_
  refine Ol.p asi ?_
  refine Ol.nil ?_
  refine Cd.block ?_
  refine Cd.loop (fun m σ L => Has σ [(0, .slice none 0 0), (3, .int .i64 0)] ∧ [] = L) (n := 0) ⟨⟨rfl, rfl, trivial⟩, rfl⟩ ?_
  rintro _ σ L ⟨hs, rfl⟩
  refine Cd.has hs ?_
  clear hs
  refine Cd.seq ?_
  refine Cd.seq ?_
  refine Cd.region ?_
  refine Ol.p mvi ?_
  refine Ol.p mvs ?_
  refine Ol.p (lens sl_L_L_api_Block) ?_
  refine Ol.p lsi ?_
  refine Ol.nil ?_
  refine Cd.cond rfl (fun h => absurd h (by decide)) (fun _ => ?_)
  refine Cd.exit (id := 0) ?_
  refine Cd.seq ?_
  refine Cd.region ?_
  refine Ol.p mvs ?_
  refine Ol.p (lens sl_L_L_api_Block) ?_
  refine Ol.x (mks (n := 0) (c := 0) sl_L_L_api_Block zr_L_api_Block) ?_
  rintro _ _ ⟨gm, rfl, rfl⟩
  refine Ol.p ass ?_
  refine Ol.nil ?_
  obtain ⟨VG, hVG⟩ : ∃ V, V = Value.slice (some ⟨gm, 0, none⟩) 0 0 := ⟨_, rfl⟩
  rw [← hVG]
  obtain ⟨LG, hLG⟩ : ∃ LG : List Res, LG = [row VG 23 1 0 ((madeCells (Value.slice none 0 0).cells (0 * 1)).toList.take (0 * 1))] := ⟨_, rfl⟩
  rw [← hLG]
  refine Cd.seq ?_
  refine Cd.seq ?_
  refine Cd.region ?_
  refine Ol.p asi ?_
  refine Ol.nil ?_
  refine Cd.block ?_
  refine Cd.loop (fun m σ L => Has σ [(0, .slice none 0 0), (5, VG), (6, .int .i64 0)] ∧ LG = L) (n := 0) ⟨⟨rfl, rfl, rfl, trivial⟩, rfl⟩ ?_
  rintro _ σ L ⟨hs, rfl⟩
  refine Cd.has hs ?_
  clear hs
  refine Cd.seq ?_
  refine Cd.seq ?_
  refine Cd.region ?_
  refine Ol.p mvi ?_
  refine Ol.p mvs ?_
  refine Ol.p (lens sl_L_L_api_Block) ?_
  refine Ol.p lsi ?_
  refine Ol.nil ?_
  refine Cd.cond rfl (fun h => absurd h (by decide)) (fun _ => ?_)
  refine Cd.exit (id := 4) ?_
  refine Cd.seq ?_
  refine Cd.seq ?_
  refine Cd.region ?_
  refine Ol.p asi ?_
  refine Ol.nil ?_
  refine Cd.block ?_
  refine Cd.loop (fun m σ L => Has σ [(0, .slice none 0 0), (5, VG), (9, .int .i64 0)] ∧ LG = L) (n := 0) ⟨⟨rfl, rfl, rfl, trivial⟩, rfl⟩ ?_
  rintro _ σ L ⟨hs, rfl⟩
  refine Cd.has hs ?_
  clear hs
  refine Cd.seq ?_
  refine Cd.seq ?_
  refine Cd.region ?_
  refine Ol.p mvi ?_
  refine Ol.p mvs ?_
  refine Ol.p (lens sl_L_L_api_Block) ?_
  refine Ol.p lsi ?_
  refine Ol.nil ?_
  refine Cd.cond rfl (fun h => absurd h (by decide)) (fun _ => ?_)
  refine Cd.exit (id := 8) ?_
  refine Cd.seq ?_
  refine Cd.seq ?_
  refine Cd.region ?_
  refine Ol.p asi ?_
  refine Ol.nil ?_
  refine Cd.block ?_
  refine Cd.loop (fun m σ L => Has σ [(0, .slice none 0 0), (5, VG), (11, .int .i64 0)] ∧ LG = L) (n := 0) ⟨⟨rfl, rfl, rfl, trivial⟩, rfl⟩ ?_
  rintro _ σ L ⟨hs, rfl⟩
  refine Cd.has hs ?_
  clear hs
  refine Cd.seq ?_
  refine Cd.seq ?_
  refine Cd.region ?_
  refine Ol.p mvi ?_
  refine Ol.p mvs ?_
  refine Ol.p (lens sl_L_L_api_Block) ?_
  refine Ol.p lsi ?_
  refine Ol.nil ?_
  refine Cd.cond rfl (fun h => absurd h (by decide)) (fun _ => ?_)
  refine Cd.exit (id := 12) ?_
  refine Cd.seq ?_
  refine Cd.seq ?_
  refine Cd.region ?_
  refine Ol.p asi ?_
  refine Ol.nil ?_
  refine Cd.block ?_
  refine Cd.loop (fun m σ L => Has σ [(0, .slice none 0 0), (5, VG), (14, .int .i64 0)] ∧ LG = L) (n := 0) ⟨⟨rfl, rfl, rfl, trivial⟩, rfl⟩ ?_
  rintro _ σ L ⟨hs, rfl⟩
  refine Cd.has hs ?_
  clear hs
  refine Cd.seq ?_
  refine Cd.seq ?_
  refine Cd.region ?_
  refine Ol.p mvi ?_
  refine Ol.p mvs ?_
  refine Ol.p (lens sl_L_L_api_Block) ?_
  refine Ol.p lsi ?_
  refine Ol.nil ?_
  refine Cd.cond rfl (fun h => absurd h (by decide)) (fun _ => ?_)
  refine Cd.exit (id := 16) ?_
  refine Cd.seq ?_
  refine Cd.region ?_
  refine Ol.p asb ?_
  refine Ol.nil ?_
  exact Cd.ret ⟨.bool true, ret1 rfl rfl, [], Keep.nil, rfl, rfl⟩
theorem kit_flatFuncs_nil {w : World} : Ct Tryz.prog 98 #[.slice none 0 0] w (Is (.bool true)) := by
  refine Ct.mk Tryz.func98 rfl rfl ?_
  refine Cd.seq ?_
  refine Cd.region ?_
  refine Ol.p asb ?_
  refine Ol.nil ?_
  refine Cd.seq ?_
  refine Cd.seq ?_
  refine Cd.region ?_
  refine Ol.p asi ?_
  refine Ol.nil ?_
  refine Cd.block ?_
  refine Cd.loop (fun m σ L => Has σ [(0, .slice none 0 0), (3, .int .i64 0)] ∧ [] = L) (n := 0) ⟨⟨rfl, rfl, trivial⟩, rfl⟩ ?_
  rintro _ σ L ⟨hs, rfl⟩
  refine Cd.has hs ?_
  clear hs
  refine Cd.seq ?_
  refine Cd.seq ?_
  refine Cd.region ?_
  refine Ol.p mvi ?_
  refine Ol.p mvs ?_
  refine Ol.p (lens sl_L_L_api_Func) ?_
  refine Ol.p lsi ?_
  refine Ol.nil ?_
  refine Cd.cond rfl (fun h => absurd h (by decide)) (fun _ => ?_)
  refine Cd.exit (id := 0) ?_
  refine Cd.seq ?_
  refine Cd.region ?_
  refine Ol.p mvs ?_
  refine Ol.p (lens sl_L_L_api_Func) ?_
  refine Ol.x (mks (n := 0) (c := 0) sl_L_L_api_Func zr_L_api_Func) ?_
  rintro _ _ ⟨gm, rfl, rfl⟩
  refine Ol.p ass ?_
  refine Ol.nil ?_
  obtain ⟨VG, hVG⟩ : ∃ V, V = Value.slice (some ⟨gm, 0, none⟩) 0 0 := ⟨_, rfl⟩
  rw [← hVG]
  obtain ⟨LG, hLG⟩ : ∃ LG : List Res, LG = [row VG 150 1 0 ((madeCells (Value.slice none 0 0).cells (0 * 1)).toList.take (0 * 1))] := ⟨_, rfl⟩
  rw [← hLG]
  refine Cd.seq ?_
  refine Cd.seq ?_
  refine Cd.region ?_
  refine Ol.p asi ?_
  refine Ol.nil ?_
  refine Cd.block ?_
  refine Cd.loop (fun m σ L => Has σ [(0, .slice none 0 0), (5, VG), (6, .int .i64 0)] ∧ LG = L) (n := 0) ⟨⟨rfl, rfl, rfl, trivial⟩, rfl⟩ ?_
  rintro _ σ L ⟨hs, rfl⟩
  refine Cd.has hs ?_
  clear hs
  refine Cd.seq ?_
  refine Cd.seq ?_
  refine Cd.region ?_
  refine Ol.p mvi ?_
  refine Ol.p mvs ?_
  refine Ol.p (lens sl_L_L_api_Func) ?_
  refine Ol.p lsi ?_
  refine Ol.nil ?_
  refine Cd.cond rfl (fun h => absurd h (by decide)) (fun _ => ?_)
  refine Cd.exit (id := 4) ?_
  refine Cd.seq ?_
  refine Cd.seq ?_
  refine Cd.region ?_
  refine Ol.p asi ?_
  refine Ol.nil ?_
  refine Cd.block ?_
  refine Cd.loop (fun m σ L => Has σ [(0, .slice none 0 0), (5, VG), (9, .int .i64 0)] ∧ LG = L) (n := 0) ⟨⟨rfl, rfl, rfl, trivial⟩, rfl⟩ ?_
  rintro _ σ L ⟨hs, rfl⟩
  refine Cd.has hs ?_
  clear hs
  refine Cd.seq ?_
  refine Cd.seq ?_
  refine Cd.region ?_
  refine Ol.p mvi ?_
  refine Ol.p mvs ?_
  refine Ol.p (lens sl_L_L_api_Func) ?_
  refine Ol.p lsi ?_
  refine Ol.nil ?_
  refine Cd.cond rfl (fun h => absurd h (by decide)) (fun _ => ?_)
  refine Cd.exit (id := 8) ?_
  refine Cd.seq ?_
  refine Cd.seq ?_
  refine Cd.region ?_
  refine Ol.p asi ?_
  refine Ol.nil ?_
  refine Cd.block ?_
  refine Cd.loop (fun m σ L => Has σ [(0, .slice none 0 0), (5, VG), (11, .int .i64 0)] ∧ LG = L) (n := 0) ⟨⟨rfl, rfl, rfl, trivial⟩, rfl⟩ ?_
  rintro _ σ L ⟨hs, rfl⟩
  refine Cd.has hs ?_
  clear hs
  refine Cd.seq ?_
  refine Cd.seq ?_
  refine Cd.region ?_
  refine Ol.p mvi ?_
  refine Ol.p mvs ?_
  refine Ol.p (lens sl_L_L_api_Func) ?_
  refine Ol.p lsi ?_
  refine Ol.nil ?_
  refine Cd.cond rfl (fun h => absurd h (by decide)) (fun _ => ?_)
  refine Cd.exit (id := 12) ?_
  refine Cd.seq ?_
  refine Cd.seq ?_
  refine Cd.region ?_
  refine Ol.p asi ?_
  refine Ol.nil ?_
  refine Cd.block ?_
  refine Cd.loop (fun m σ L => Has σ [(0, .slice none 0 0), (5, VG), (14, .int .i64 0)] ∧ LG = L) (n := 0) ⟨⟨rfl, rfl, rfl, trivial⟩, rfl⟩ ?_
  rintro _ σ L ⟨hs, rfl⟩
  refine Cd.has hs ?_
  clear hs
  refine Cd.seq ?_
  refine Cd.seq ?_
  refine Cd.region ?_
  refine Ol.p mvi ?_
  refine Ol.p mvs ?_
  refine Ol.p (lens sl_L_L_api_Func) ?_
  refine Ol.p lsi ?_
  refine Ol.nil ?_
  refine Cd.cond rfl (fun h => absurd h (by decide)) (fun _ => ?_)
  refine Cd.exit (id := 16) ?_
  refine Cd.seq ?_
  refine Cd.region ?_
  refine Ol.p asb ?_
  refine Ol.nil ?_
  exact Cd.ret ⟨.bool true, ret1 rfl rfl, [], Keep.nil, rfl, rfl⟩
theorem kit_flatTargets_nil {w : World} : Ct Tryz.prog 99 #[.slice none 0 0] w (Is (.bool true)) := by
  refine Ct.mk Tryz.func99 rfl rfl ?_
  refine Cd.seq ?_
  refine Cd.region ?_
  refine Ol.p asb ?_
  refine Ol.nil ?_
  refine Cd.seq ?_
  refine Cd.seq ?_
  refine Cd.region ?_
  refine Ol.p asi ?_
  refine Ol.nil ?_
  refine Cd.block ?_
  refine Cd.loop (fun m σ L => Has σ [(0, .slice none 0 0), (3, .int .i64 0)] ∧ [] = L) (n := 0) ⟨⟨rfl, rfl, trivial⟩, rfl⟩ ?_
  rintro _ σ L ⟨hs, rfl⟩
  refine Cd.has hs ?_
  clear hs
  refine Cd.seq ?_
  refine Cd.seq ?_
  refine Cd.region ?_
  refine Ol.p mvi ?_
  refine Ol.p mvs ?_
  refine Ol.p (lens sl_L_L_api_Target) ?_
  refine Ol.p lsi ?_
  refine Ol.nil ?_
  refine Cd.cond rfl (fun h => absurd h (by decide)) (fun _ => ?_)
  refine Cd.exit (id := 0) ?_
  refine Cd.seq ?_
  refine Cd.region ?_
  refine Ol.p mvs ?_
  refine Ol.p (lens sl_L_L_api_Target) ?_
  refine Ol.x (mks (n := 0) (c := 0) sl_L_L_api_Target zr_L_api_Target) ?_
  rintro _ _ ⟨gm, rfl, rfl⟩
  refine Ol.p ass ?_
  refine Ol.nil ?_
  obtain ⟨VG, hVG⟩ : ∃ V, V = Value.slice (some ⟨gm, 0, none⟩) 0 0 := ⟨_, rfl⟩
  rw [← hVG]
  obtain ⟨LG, hLG⟩ : ∃ LG : List Res, LG = [row VG 152 1 0 ((madeCells (Value.slice none 0 0).cells (0 * 1)).toList.take (0 * 1))] := ⟨_, rfl⟩
  rw [← hLG]
  refine Cd.seq ?_
  refine Cd.seq ?_
  refine Cd.region ?_
  refine Ol.p asi ?_
  refine Ol.nil ?_
  refine Cd.block ?_
  refine Cd.loop (fun m σ L => Has σ [(0, .slice none 0 0), (5, VG), (6, .int .i64 0)] ∧ LG = L) (n := 0) ⟨⟨rfl, rfl, rfl, trivial⟩, rfl⟩ ?_
  rintro _ σ L ⟨hs, rfl⟩
  refine Cd.has hs ?_
  clear hs
  refine Cd.seq ?_
  refine Cd.seq ?_
  refine Cd.region ?_
  refine Ol.p mvi ?_
  refine Ol.p mvs ?_
  refine Ol.p (lens sl_L_L_api_Target) ?_
  refine Ol.p lsi ?_
  refine Ol.nil ?_
  refine Cd.cond rfl (fun h => absurd h (by decide)) (fun _ => ?_)
  refine Cd.exit (id := 4) ?_
  refine Cd.seq ?_
  refine Cd.seq ?_
  refine Cd.region ?_
  refine Ol.p asi ?_
  refine Ol.nil ?_
  refine Cd.block ?_
  refine Cd.loop (fun m σ L => Has σ [(0, .slice none 0 0), (5, VG), (9, .int .i64 0)] ∧ LG = L) (n := 0) ⟨⟨rfl, rfl, rfl, trivial⟩, rfl⟩ ?_
  rintro _ σ L ⟨hs, rfl⟩
  refine Cd.has hs ?_
  clear hs
  refine Cd.seq ?_
  refine Cd.seq ?_
  refine Cd.region ?_
  refine Ol.p mvi ?_
  refine Ol.p mvs ?_
  refine Ol.p (lens sl_L_L_api_Target) ?_
  refine Ol.p lsi ?_
  refine Ol.nil ?_
  refine Cd.cond rfl (fun h => absurd h (by decide)) (fun _ => ?_)
  refine Cd.exit (id := 8) ?_
  refine Cd.seq ?_
  refine Cd.seq ?_
  refine Cd.region ?_
  refine Ol.p asi ?_
  refine Ol.nil ?_
  refine Cd.block ?_
  refine Cd.loop (fun m σ L => Has σ [(0, .slice none 0 0), (5, VG), (11, .int .i64 0)] ∧ LG = L) (n := 0) ⟨⟨rfl, rfl, rfl, trivial⟩, rfl⟩ ?_
  rintro _ σ L ⟨hs, rfl⟩
  refine Cd.has hs ?_
  clear hs
  refine Cd.seq ?_
  refine Cd.seq ?_
  refine Cd.region ?_
  refine Ol.p mvi ?_
  refine Ol.p mvs ?_
  refine Ol.p (lens sl_L_L_api_Target) ?_
  refine Ol.p lsi ?_
  refine Ol.nil ?_
  refine Cd.cond rfl (fun h => absurd h (by decide)) (fun _ => ?_)
  refine Cd.exit (id := 12) ?_
  refine Cd.seq ?_
  refine Cd.seq ?_
  refine Cd.region ?_
  refine Ol.p asi ?_
  refine Ol.nil ?_
  refine Cd.block ?_
  refine Cd.loop (fun m σ L => Has σ [(0, .slice none 0 0), (5, VG), (14, .int .i64 0)] ∧ LG = L) (n := 0) ⟨⟨rfl, rfl, rfl, trivial⟩, rfl⟩ ?_
  rintro _ σ L ⟨hs, rfl⟩
  refine Cd.has hs ?_
  clear hs
  refine Cd.seq ?_
  refine Cd.seq ?_
  refine Cd.region ?_
  refine Ol.p mvi ?_
  refine Ol.p mvs ?_
  refine Ol.p (lens sl_L_L_api_Target) ?_
  refine Ol.p lsi ?_
  refine Ol.nil ?_
  refine Cd.cond rfl (fun h => absurd h (by decide)) (fun _ => ?_)
  refine Cd.exit (id := 16) ?_
  refine Cd.seq ?_
  refine Cd.region ?_
  refine Ol.p asb ?_
  refine Ol.nil ?_
  exact Cd.ret ⟨.bool true, ret1 rfl rfl, [], Keep.nil, rfl, rfl⟩
theorem kit_flatMachines_nil {w : World} : Ct Tryz.prog 100 #[.slice none 0 0] w (Is (.bool true)) := by
  refine Ct.mk Tryz.func100 rfl rfl ?_
  refine Cd.seq ?_
  refine Cd.region ?_
  refine Ol.p asb ?_
  refine Ol.nil ?_
  refine Cd.seq ?_
  refine Cd.seq ?_
  refine Cd.region ?_
  refine Ol.p asi ?_
  refine Ol.nil ?_
  refine Cd.block ?_
  refine Cd.loop (fun m σ L => Has σ [(0, .slice none 0 0), (3, .int .i64 0)] ∧ [] = L) (n := 0) ⟨⟨rfl, rfl, trivial⟩, rfl⟩ ?_
  rintro _ σ L ⟨hs, rfl⟩
  refine Cd.has hs ?_
  clear hs
  refine Cd.seq ?_
  refine Cd.seq ?_
  refine Cd.region ?_
  refine Ol.p mvi ?_
  refine Ol.p mvs ?_
  refine Ol.p (lens sl_L_L_api_Machine) ?_
  refine Ol.p lsi ?_
  refine Ol.nil ?_
  refine Cd.cond rfl (fun h => absurd h (by decide)) (fun _ => ?_)
  refine Cd.exit (id := 0) ?_
  refine Cd.seq ?_
  refine Cd.region ?_
  refine Ol.p mvs ?_
  refine Ol.p (lens sl_L_L_api_Machine) ?_
  refine Ol.x (mks (n := 0) (c := 0) sl_L_L_api_Machine zr_L_api_Machine) ?_
  rintro _ _ ⟨gm, rfl, rfl⟩
  refine Ol.p ass ?_
  refine Ol.nil ?_
  obtain ⟨VG, hVG⟩ : ∃ V, V = Value.slice (some ⟨gm, 0, none⟩) 0 0 := ⟨_, rfl⟩
  rw [← hVG]
  obtain ⟨LG, hLG⟩ : ∃ LG : List Res, LG = [row VG 157 1 0 ((madeCells (Value.slice none 0 0).cells (0 * 1)).toList.take (0 * 1))] := ⟨_, rfl⟩
  rw [← hLG]
  refine Cd.seq ?_
  refine Cd.seq ?_
  refine Cd.region ?_
  refine Ol.p asi ?_
  refine Ol.nil ?_
  refine Cd.block ?_
  refine Cd.loop (fun m σ L => Has σ [(0, .slice none 0 0), (5, VG), (6, .int .i64 0)] ∧ LG = L) (n := 0) ⟨⟨rfl, rfl, rfl, trivial⟩, rfl⟩ ?_
  rintro _ σ L ⟨hs, rfl⟩
  refine Cd.has hs ?_
  clear hs
  refine Cd.seq ?_
  refine Cd.seq ?_
  refine Cd.region ?_
  refine Ol.p mvi ?_
  refine Ol.p mvs ?_
  refine Ol.p (lens sl_L_L_api_Machine) ?_
  refine Ol.p lsi ?_
  refine Ol.nil ?_
  refine Cd.cond rfl (fun h => absurd h (by decide)) (fun _ => ?_)
  refine Cd.exit (id := 4) ?_
  refine Cd.seq ?_
  refine Cd.seq ?_
  refine Cd.region ?_
  refine Ol.p asi ?_
  refine Ol.nil ?_
  refine Cd.block ?_
  refine Cd.loop (fun m σ L => Has σ [(0, .slice none 0 0), (5, VG), (9, .int .i64 0)] ∧ LG = L) (n := 0) ⟨⟨rfl, rfl, rfl, trivial⟩, rfl⟩ ?_
  rintro _ σ L ⟨hs, rfl⟩
  refine Cd.has hs ?_
  clear hs
  refine Cd.seq ?_
  refine Cd.seq ?_
  refine Cd.region ?_
  refine Ol.p mvi ?_
  refine Ol.p mvs ?_
  refine Ol.p (lens sl_L_L_api_Machine) ?_
  refine Ol.p lsi ?_
  refine Ol.nil ?_
  refine Cd.cond rfl (fun h => absurd h (by decide)) (fun _ => ?_)
  refine Cd.exit (id := 8) ?_
  refine Cd.seq ?_
  refine Cd.seq ?_
  refine Cd.region ?_
  refine Ol.p asi ?_
  refine Ol.nil ?_
  refine Cd.block ?_
  refine Cd.loop (fun m σ L => Has σ [(0, .slice none 0 0), (5, VG), (11, .int .i64 0)] ∧ LG = L) (n := 0) ⟨⟨rfl, rfl, rfl, trivial⟩, rfl⟩ ?_
  rintro _ σ L ⟨hs, rfl⟩
  refine Cd.has hs ?_
  clear hs
  refine Cd.seq ?_
  refine Cd.seq ?_
  refine Cd.region ?_
  refine Ol.p mvi ?_
  refine Ol.p mvs ?_
  refine Ol.p (lens sl_L_L_api_Machine) ?_
  refine Ol.p lsi ?_
  refine Ol.nil ?_
  refine Cd.cond rfl (fun h => absurd h (by decide)) (fun _ => ?_)
  refine Cd.exit (id := 12) ?_
  refine Cd.seq ?_
  refine Cd.seq ?_
  refine Cd.region ?_
  refine Ol.p asi ?_
  refine Ol.nil ?_
  refine Cd.block ?_
  refine Cd.loop (fun m σ L => Has σ [(0, .slice none 0 0), (5, VG), (14, .int .i64 0)] ∧ LG = L) (n := 0) ⟨⟨rfl, rfl, rfl, trivial⟩, rfl⟩ ?_
  rintro _ σ L ⟨hs, rfl⟩
  refine Cd.has hs ?_
  clear hs
  refine Cd.seq ?_
  refine Cd.seq ?_
  refine Cd.region ?_
  refine Ol.p mvi ?_
  refine Ol.p mvs ?_
  refine Ol.p (lens sl_L_L_api_Machine) ?_
  refine Ol.p lsi ?_
  refine Ol.nil ?_
  refine Cd.cond rfl (fun h => absurd h (by decide)) (fun _ => ?_)
  refine Cd.exit (id := 16) ?_
  refine Cd.seq ?_
  refine Cd.region ?_
  refine Ol.p asb ?_
  refine Ol.nil ?_
  exact Cd.ret ⟨.bool true, ret1 rfl rfl, [], Keep.nil, rfl, rfl⟩
theorem kit_flatLocs_nil {w : World} : Ct Tryz.prog 101 #[.slice none 0 0] w (Is (.bool true)) := by
  refine Ct.mk Tryz.func101 rfl rfl ?_
  refine Cd.seq ?_
  refine Cd.region ?_
  refine Ol.p asb ?_
  refine Ol.nil ?_
  refine Cd.seq ?_
  refine Cd.seq ?_
  refine Cd.region ?_
  refine Ol.p asi ?_
  refine Ol.nil ?_
  refine Cd.block ?_
  refine Cd.loop (fun m σ L => Has σ [(0, .slice none 0 0), (3, .int .i64 0)] ∧ [] = L) (n := 0) ⟨⟨rfl, rfl, trivial⟩, rfl⟩ ?_
  rintro _ σ L ⟨hs, rfl⟩
  refine Cd.has hs ?_
  clear hs
  refine Cd.seq ?_
  refine Cd.seq ?_
  refine Cd.region ?_
  refine Ol.p mvi ?_
  refine Ol.p mvs ?_
  refine Ol.p (lens sl_L_L_api_Loc) ?_
  refine Ol.p lsi ?_
  refine Ol.nil ?_
  refine Cd.cond rfl (fun h => absurd h (by decide)) (fun _ => ?_)
  refine Cd.exit (id := 0) ?_
  refine Cd.seq ?_
  refine Cd.region ?_
  refine Ol.p mvs ?_
  refine Ol.p (lens sl_L_L_api_Loc) ?_
  refine Ol.x (mks (n := 0) (c := 0) sl_L_L_api_Loc zr_L_api_Loc) ?_
  rintro _ _ ⟨gm, rfl, rfl⟩
  refine Ol.p ass ?_
  refine Ol.nil ?_
  obtain ⟨VG, hVG⟩ : ∃ V, V = Value.slice (some ⟨gm, 0, none⟩) 0 0 := ⟨_, rfl⟩
  rw [← hVG]
  obtain ⟨LG, hLG⟩ : ∃ LG : List Res, LG = [row VG 162 1 0 ((madeCells (Value.slice none 0 0).cells (0 * 1)).toList.take (0 * 1))] := ⟨_, rfl⟩
  rw [← hLG]
  refine Cd.seq ?_
  refine Cd.seq ?_
  refine Cd.region ?_
  refine Ol.p asi ?_
  refine Ol.nil ?_
  refine Cd.block ?_
  refine Cd.loop (fun m σ L => Has σ [(0, .slice none 0 0), (5, VG), (6, .int .i64 0)] ∧ LG = L) (n := 0) ⟨⟨rfl, rfl, rfl, trivial⟩, rfl⟩ ?_
  rintro _ σ L ⟨hs, rfl⟩
  refine Cd.has hs ?_
  clear hs
  refine Cd.seq ?_
  refine Cd.seq ?_
  refine Cd.region ?_
  refine Ol.p mvi ?_
  refine Ol.p mvs ?_
  refine Ol.p (lens sl_L_L_api_Loc) ?_
  refine Ol.p lsi ?_
  refine Ol.nil ?_
  refine Cd.cond rfl (fun h => absurd h (by decide)) (fun _ => ?_)
  refine Cd.exit (id := 4) ?_
  refine Cd.seq ?_
  refine Cd.seq ?_
  refine Cd.region ?_
  refine Ol.p asi ?_
  refine Ol.nil ?_
  refine Cd.block ?_
  refine Cd.loop (fun m σ L => Has σ [(0, .slice none 0 0), (5, VG), (9, .int .i64 0)] ∧ LG = L) (n := 0) ⟨⟨rfl, rfl, rfl, trivial⟩, rfl⟩ ?_
  rintro _ σ L ⟨hs, rfl⟩
  refine Cd.has hs ?_
  clear hs
  refine Cd.seq ?_
  refine Cd.seq ?_
  refine Cd.region ?_
  refine Ol.p mvi ?_
  refine Ol.p mvs ?_
  refine Ol.p (lens sl_L_L_api_Loc) ?_
  refine Ol.p lsi ?_
  refine Ol.nil ?_
  refine Cd.cond rfl (fun h => absurd h (by decide)) (fun _ => ?_)
  refine Cd.exit (id := 8) ?_
  refine Cd.seq ?_
  refine Cd.seq ?_
  refine Cd.region ?_
  refine Ol.p asi ?_
  refine Ol.nil ?_
  refine Cd.block ?_
  refine Cd.loop (fun m σ L => Has σ [(0, .slice none 0 0), (5, VG), (11, .int .i64 0)] ∧ LG = L) (n := 0) ⟨⟨rfl, rfl, rfl, trivial⟩, rfl⟩ ?_
  rintro _ σ L ⟨hs, rfl⟩
  refine Cd.has hs ?_
  clear hs
  refine Cd.seq ?_
  refine Cd.seq ?_
  refine Cd.region ?_
  refine Ol.p mvi ?_
  refine Ol.p mvs ?_
  refine Ol.p (lens sl_L_L_api_Loc) ?_
  refine Ol.p lsi ?_
  refine Ol.nil ?_
  refine Cd.cond rfl (fun h => absurd h (by decide)) (fun _ => ?_)
  refine Cd.exit (id := 12) ?_
  refine Cd.seq ?_
  refine Cd.seq ?_
  refine Cd.region ?_
  refine Ol.p asi ?_
  refine Ol.nil ?_
  refine Cd.block ?_
  refine Cd.loop (fun m σ L => Has σ [(0, .slice none 0 0), (5, VG), (14, .int .i64 0)] ∧ LG = L) (n := 0) ⟨⟨rfl, rfl, rfl, trivial⟩, rfl⟩ ?_
  rintro _ σ L ⟨hs, rfl⟩
  refine Cd.has hs ?_
  clear hs
  refine Cd.seq ?_
  refine Cd.seq ?_
  refine Cd.region ?_
  refine Ol.p mvi ?_
  refine Ol.p mvs ?_
  refine Ol.p (lens sl_L_L_api_Loc) ?_
  refine Ol.p lsi ?_
  refine Ol.nil ?_
  refine Cd.cond rfl (fun h => absurd h (by decide)) (fun _ => ?_)
  refine Cd.exit (id := 16) ?_
  refine Cd.seq ?_
  refine Cd.region ?_
  refine Ol.p asb ?_
  refine Ol.nil ?_
  exact Cd.ret ⟨.bool true, ret1 rfl rfl, [], Keep.nil, rfl, rfl⟩
theorem kit_flatFacts_nil {w : World} : Ct Tryz.prog 102 #[.slice none 0 0] w (Is (.bool true)) := by
  refine Ct.mk Tryz.func102 rfl rfl ?_
  refine Cd.seq ?_
  refine Cd.region ?_
  refine Ol.p asb ?_
  refine Ol.nil ?_
  refine Cd.seq ?_
  refine Cd.seq ?_
  refine Cd.region ?_
  refine Ol.p asi ?_
  refine Ol.nil ?_
  refine Cd.block ?_
  refine Cd.loop (fun m σ L => Has σ [(0, .slice none 0 0), (3, .int .i64 0)] ∧ [] = L) (n := 0) ⟨⟨rfl, rfl, trivial⟩, rfl⟩ ?_
  rintro _ σ L ⟨hs, rfl⟩
  refine Cd.has hs ?_
  clear hs
  refine Cd.seq ?_
  refine Cd.seq ?_
  refine Cd.region ?_
  refine Ol.p mvi ?_
  refine Ol.p mvs ?_
  refine Ol.p (lens sl_L_L_api_Fact) ?_
  refine Ol.p lsi ?_
  refine Ol.nil ?_
  refine Cd.cond rfl (fun h => absurd h (by decide)) (fun _ => ?_)
  refine Cd.exit (id := 0) ?_
  refine Cd.seq ?_
  refine Cd.region ?_
  refine Ol.p mvs ?_
  refine Ol.p (lens sl_L_L_api_Fact) ?_
  refine Ol.x (mks (n := 0) (c := 0) sl_L_L_api_Fact zr_L_api_Fact) ?_
  rintro _ _ ⟨gm, rfl, rfl⟩
  refine Ol.p ass ?_
  refine Ol.nil ?_
  obtain ⟨VG, hVG⟩ : ∃ V, V = Value.slice (some ⟨gm, 0, none⟩) 0 0 := ⟨_, rfl⟩
  rw [← hVG]
  obtain ⟨LG, hLG⟩ : ∃ LG : List Res, LG = [row VG 166 1 0 ((madeCells (Value.slice none 0 0).cells (0 * 1)).toList.take (0 * 1))] := ⟨_, rfl⟩
  rw [← hLG]
  refine Cd.seq ?_
  refine Cd.seq ?_
  refine Cd.region ?_
  refine Ol.p asi ?_
  refine Ol.nil ?_
  refine Cd.block ?_
  refine Cd.loop (fun m σ L => Has σ [(0, .slice none 0 0), (5, VG), (6, .int .i64 0)] ∧ LG = L) (n := 0) ⟨⟨rfl, rfl, rfl, trivial⟩, rfl⟩ ?_
  rintro _ σ L ⟨hs, rfl⟩
  refine Cd.has hs ?_
  clear hs
  refine Cd.seq ?_
  refine Cd.seq ?_
  refine Cd.region ?_
  refine Ol.p mvi ?_
  refine Ol.p mvs ?_
  refine Ol.p (lens sl_L_L_api_Fact) ?_
  refine Ol.p lsi ?_
  refine Ol.nil ?_
  refine Cd.cond rfl (fun h => absurd h (by decide)) (fun _ => ?_)
  refine Cd.exit (id := 4) ?_
  refine Cd.seq ?_
  refine Cd.seq ?_
  refine Cd.region ?_
  refine Ol.p asi ?_
  refine Ol.nil ?_
  refine Cd.block ?_
  refine Cd.loop (fun m σ L => Has σ [(0, .slice none 0 0), (5, VG), (9, .int .i64 0)] ∧ LG = L) (n := 0) ⟨⟨rfl, rfl, rfl, trivial⟩, rfl⟩ ?_
  rintro _ σ L ⟨hs, rfl⟩
  refine Cd.has hs ?_
  clear hs
  refine Cd.seq ?_
  refine Cd.seq ?_
  refine Cd.region ?_
  refine Ol.p mvi ?_
  refine Ol.p mvs ?_
  refine Ol.p (lens sl_L_L_api_Fact) ?_
  refine Ol.p lsi ?_
  refine Ol.nil ?_
  refine Cd.cond rfl (fun h => absurd h (by decide)) (fun _ => ?_)
  refine Cd.exit (id := 8) ?_
  refine Cd.seq ?_
  refine Cd.seq ?_
  refine Cd.region ?_
  refine Ol.p asi ?_
  refine Ol.nil ?_
  refine Cd.block ?_
  refine Cd.loop (fun m σ L => Has σ [(0, .slice none 0 0), (5, VG), (11, .int .i64 0)] ∧ LG = L) (n := 0) ⟨⟨rfl, rfl, rfl, trivial⟩, rfl⟩ ?_
  rintro _ σ L ⟨hs, rfl⟩
  refine Cd.has hs ?_
  clear hs
  refine Cd.seq ?_
  refine Cd.seq ?_
  refine Cd.region ?_
  refine Ol.p mvi ?_
  refine Ol.p mvs ?_
  refine Ol.p (lens sl_L_L_api_Fact) ?_
  refine Ol.p lsi ?_
  refine Ol.nil ?_
  refine Cd.cond rfl (fun h => absurd h (by decide)) (fun _ => ?_)
  refine Cd.exit (id := 12) ?_
  refine Cd.seq ?_
  refine Cd.seq ?_
  refine Cd.region ?_
  refine Ol.p asi ?_
  refine Ol.nil ?_
  refine Cd.block ?_
  refine Cd.loop (fun m σ L => Has σ [(0, .slice none 0 0), (5, VG), (14, .int .i64 0)] ∧ LG = L) (n := 0) ⟨⟨rfl, rfl, rfl, trivial⟩, rfl⟩ ?_
  rintro _ σ L ⟨hs, rfl⟩
  refine Cd.has hs ?_
  clear hs
  refine Cd.seq ?_
  refine Cd.seq ?_
  refine Cd.region ?_
  refine Ol.p mvi ?_
  refine Ol.p mvs ?_
  refine Ol.p (lens sl_L_L_api_Fact) ?_
  refine Ol.p lsi ?_
  refine Ol.nil ?_
  refine Cd.cond rfl (fun h => absurd h (by decide)) (fun _ => ?_)
  refine Cd.exit (id := 16) ?_
  refine Cd.seq ?_
  refine Cd.region ?_
  refine Ol.p asb ?_
  refine Ol.nil ?_
  exact Cd.ret ⟨.bool true, ret1 rfl rfl, [], Keep.nil, rfl, rfl⟩
theorem kit_flatEdges_nil {w : World} : Ct Tryz.prog 103 #[.slice none 0 0] w (Is (.bool true)) := by
  refine Ct.mk Tryz.func103 rfl rfl ?_
  refine Cd.seq ?_
  refine Cd.region ?_
  refine Ol.p asb ?_
  refine Ol.nil ?_
  refine Cd.seq ?_
  refine Cd.seq ?_
  refine Cd.region ?_
  refine Ol.p asi ?_
  refine Ol.nil ?_
  refine Cd.block ?_
  refine Cd.loop (fun m σ L => Has σ [(0, .slice none 0 0), (3, .int .i64 0)] ∧ [] = L) (n := 0) ⟨⟨rfl, rfl, trivial⟩, rfl⟩ ?_
  rintro _ σ L ⟨hs, rfl⟩
  refine Cd.has hs ?_
  clear hs
  refine Cd.seq ?_
  refine Cd.seq ?_
  refine Cd.region ?_
  refine Ol.p mvi ?_
  refine Ol.p mvs ?_
  refine Ol.p (lens sl_L_L_api_Edge) ?_
  refine Ol.p lsi ?_
  refine Ol.nil ?_
  refine Cd.cond rfl (fun h => absurd h (by decide)) (fun _ => ?_)
  refine Cd.exit (id := 0) ?_
  refine Cd.seq ?_
  refine Cd.region ?_
  refine Ol.p mvs ?_
  refine Ol.p (lens sl_L_L_api_Edge) ?_
  refine Ol.x (mks (n := 0) (c := 0) sl_L_L_api_Edge zr_L_api_Edge) ?_
  rintro _ _ ⟨gm, rfl, rfl⟩
  refine Ol.p ass ?_
  refine Ol.nil ?_
  obtain ⟨VG, hVG⟩ : ∃ V, V = Value.slice (some ⟨gm, 0, none⟩) 0 0 := ⟨_, rfl⟩
  rw [← hVG]
  obtain ⟨LG, hLG⟩ : ∃ LG : List Res, LG = [row VG 32 1 0 ((madeCells (Value.slice none 0 0).cells (0 * 1)).toList.take (0 * 1))] := ⟨_, rfl⟩
  rw [← hLG]
  refine Cd.seq ?_
  refine Cd.seq ?_
  refine Cd.region ?_
  refine Ol.p asi ?_
  refine Ol.nil ?_
  refine Cd.block ?_
  refine Cd.loop (fun m σ L => Has σ [(0, .slice none 0 0), (5, VG), (6, .int .i64 0)] ∧ LG = L) (n := 0) ⟨⟨rfl, rfl, rfl, trivial⟩, rfl⟩ ?_
  rintro _ σ L ⟨hs, rfl⟩
  refine Cd.has hs ?_
  clear hs
  refine Cd.seq ?_
  refine Cd.seq ?_
  refine Cd.region ?_
  refine Ol.p mvi ?_
  refine Ol.p mvs ?_
  refine Ol.p (lens sl_L_L_api_Edge) ?_
  refine Ol.p lsi ?_
  refine Ol.nil ?_
  refine Cd.cond rfl (fun h => absurd h (by decide)) (fun _ => ?_)
  refine Cd.exit (id := 4) ?_
  refine Cd.seq ?_
  refine Cd.seq ?_
  refine Cd.region ?_
  refine Ol.p asi ?_
  refine Ol.nil ?_
  refine Cd.block ?_
  refine Cd.loop (fun m σ L => Has σ [(0, .slice none 0 0), (5, VG), (9, .int .i64 0)] ∧ LG = L) (n := 0) ⟨⟨rfl, rfl, rfl, trivial⟩, rfl⟩ ?_
  rintro _ σ L ⟨hs, rfl⟩
  refine Cd.has hs ?_
  clear hs
  refine Cd.seq ?_
  refine Cd.seq ?_
  refine Cd.region ?_
  refine Ol.p mvi ?_
  refine Ol.p mvs ?_
  refine Ol.p (lens sl_L_L_api_Edge) ?_
  refine Ol.p lsi ?_
  refine Ol.nil ?_
  refine Cd.cond rfl (fun h => absurd h (by decide)) (fun _ => ?_)
  refine Cd.exit (id := 8) ?_
  refine Cd.seq ?_
  refine Cd.seq ?_
  refine Cd.region ?_
  refine Ol.p asi ?_
  refine Ol.nil ?_
  refine Cd.block ?_
  refine Cd.loop (fun m σ L => Has σ [(0, .slice none 0 0), (5, VG), (11, .int .i64 0)] ∧ LG = L) (n := 0) ⟨⟨rfl, rfl, rfl, trivial⟩, rfl⟩ ?_
  rintro _ σ L ⟨hs, rfl⟩
  refine Cd.has hs ?_
  clear hs
  refine Cd.seq ?_
  refine Cd.seq ?_
  refine Cd.region ?_
  refine Ol.p mvi ?_
  refine Ol.p mvs ?_
  refine Ol.p (lens sl_L_L_api_Edge) ?_
  refine Ol.p lsi ?_
  refine Ol.nil ?_
  refine Cd.cond rfl (fun h => absurd h (by decide)) (fun _ => ?_)
  refine Cd.exit (id := 12) ?_
  refine Cd.seq ?_
  refine Cd.seq ?_
  refine Cd.region ?_
  refine Ol.p asi ?_
  refine Ol.nil ?_
  refine Cd.block ?_
  refine Cd.loop (fun m σ L => Has σ [(0, .slice none 0 0), (5, VG), (14, .int .i64 0)] ∧ LG = L) (n := 0) ⟨⟨rfl, rfl, rfl, trivial⟩, rfl⟩ ?_
  rintro _ σ L ⟨hs, rfl⟩
  refine Cd.has hs ?_
  clear hs
  refine Cd.seq ?_
  refine Cd.seq ?_
  refine Cd.region ?_
  refine Ol.p mvi ?_
  refine Ol.p mvs ?_
  refine Ol.p (lens sl_L_L_api_Edge) ?_
  refine Ol.p lsi ?_
  refine Ol.nil ?_
  refine Cd.cond rfl (fun h => absurd h (by decide)) (fun _ => ?_)
  refine Cd.exit (id := 16) ?_
  refine Cd.seq ?_
  refine Cd.region ?_
  refine Ol.p asb ?_
  refine Ol.nil ?_
  exact Cd.ret ⟨.bool true, ret1 rfl rfl, [], Keep.nil, rfl, rfl⟩
theorem kit_flatTiles_nil {w : World} : Ct Tryz.prog 104 #[.slice none 0 0] w (Is (.bool true)) := by
  refine Ct.mk Tryz.func104 rfl rfl ?_
  refine Cd.seq ?_
  refine Cd.region ?_
  refine Ol.p asb ?_
  refine Ol.nil ?_
  refine Cd.seq ?_
  refine Cd.seq ?_
  refine Cd.region ?_
  refine Ol.p asi ?_
  refine Ol.nil ?_
  refine Cd.block ?_
  refine Cd.loop (fun m σ L => Has σ [(0, .slice none 0 0), (3, .int .i64 0)] ∧ [] = L) (n := 0) ⟨⟨rfl, rfl, trivial⟩, rfl⟩ ?_
  rintro _ σ L ⟨hs, rfl⟩
  refine Cd.has hs ?_
  clear hs
  refine Cd.seq ?_
  refine Cd.seq ?_
  refine Cd.region ?_
  refine Ol.p mvi ?_
  refine Ol.p mvs ?_
  refine Ol.p (lens sl_L_L_api_Tile) ?_
  refine Ol.p lsi ?_
  refine Ol.nil ?_
  refine Cd.cond rfl (fun h => absurd h (by decide)) (fun _ => ?_)
  refine Cd.exit (id := 0) ?_
  refine Cd.seq ?_
  refine Cd.region ?_
  refine Ol.p mvs ?_
  refine Ol.p (lens sl_L_L_api_Tile) ?_
  refine Ol.x (mks (n := 0) (c := 0) sl_L_L_api_Tile zr_L_api_Tile) ?_
  rintro _ _ ⟨gm, rfl, rfl⟩
  refine Ol.p ass ?_
  refine Ol.nil ?_
  obtain ⟨VG, hVG⟩ : ∃ V, V = Value.slice (some ⟨gm, 0, none⟩) 0 0 := ⟨_, rfl⟩
  rw [← hVG]
  obtain ⟨LG, hLG⟩ : ∃ LG : List Res, LG = [row VG 171 1 0 ((madeCells (Value.slice none 0 0).cells (0 * 1)).toList.take (0 * 1))] := ⟨_, rfl⟩
  rw [← hLG]
  refine Cd.seq ?_
  refine Cd.seq ?_
  refine Cd.region ?_
  refine Ol.p asi ?_
  refine Ol.nil ?_
  refine Cd.block ?_
  refine Cd.loop (fun m σ L => Has σ [(0, .slice none 0 0), (5, VG), (6, .int .i64 0)] ∧ LG = L) (n := 0) ⟨⟨rfl, rfl, rfl, trivial⟩, rfl⟩ ?_
  rintro _ σ L ⟨hs, rfl⟩
  refine Cd.has hs ?_
  clear hs
  refine Cd.seq ?_
  refine Cd.seq ?_
  refine Cd.region ?_
  refine Ol.p mvi ?_
  refine Ol.p mvs ?_
  refine Ol.p (lens sl_L_L_api_Tile) ?_
  refine Ol.p lsi ?_
  refine Ol.nil ?_
  refine Cd.cond rfl (fun h => absurd h (by decide)) (fun _ => ?_)
  refine Cd.exit (id := 4) ?_
  refine Cd.seq ?_
  refine Cd.seq ?_
  refine Cd.region ?_
  refine Ol.p asi ?_
  refine Ol.nil ?_
  refine Cd.block ?_
  refine Cd.loop (fun m σ L => Has σ [(0, .slice none 0 0), (5, VG), (9, .int .i64 0)] ∧ LG = L) (n := 0) ⟨⟨rfl, rfl, rfl, trivial⟩, rfl⟩ ?_
  rintro _ σ L ⟨hs, rfl⟩
  refine Cd.has hs ?_
  clear hs
  refine Cd.seq ?_
  refine Cd.seq ?_
  refine Cd.region ?_
  refine Ol.p mvi ?_
  refine Ol.p mvs ?_
  refine Ol.p (lens sl_L_L_api_Tile) ?_
  refine Ol.p lsi ?_
  refine Ol.nil ?_
  refine Cd.cond rfl (fun h => absurd h (by decide)) (fun _ => ?_)
  refine Cd.exit (id := 8) ?_
  refine Cd.seq ?_
  refine Cd.seq ?_
  refine Cd.region ?_
  refine Ol.p asi ?_
  refine Ol.nil ?_
  refine Cd.block ?_
  refine Cd.loop (fun m σ L => Has σ [(0, .slice none 0 0), (5, VG), (11, .int .i64 0)] ∧ LG = L) (n := 0) ⟨⟨rfl, rfl, rfl, trivial⟩, rfl⟩ ?_
  rintro _ σ L ⟨hs, rfl⟩
  refine Cd.has hs ?_
  clear hs
  refine Cd.seq ?_
  refine Cd.seq ?_
  refine Cd.region ?_
  refine Ol.p mvi ?_
  refine Ol.p mvs ?_
  refine Ol.p (lens sl_L_L_api_Tile) ?_
  refine Ol.p lsi ?_
  refine Ol.nil ?_
  refine Cd.cond rfl (fun h => absurd h (by decide)) (fun _ => ?_)
  refine Cd.exit (id := 12) ?_
  refine Cd.seq ?_
  refine Cd.seq ?_
  refine Cd.region ?_
  refine Ol.p asi ?_
  refine Ol.nil ?_
  refine Cd.block ?_
  refine Cd.loop (fun m σ L => Has σ [(0, .slice none 0 0), (5, VG), (14, .int .i64 0)] ∧ LG = L) (n := 0) ⟨⟨rfl, rfl, rfl, trivial⟩, rfl⟩ ?_
  rintro _ σ L ⟨hs, rfl⟩
  refine Cd.has hs ?_
  clear hs
  refine Cd.seq ?_
  refine Cd.seq ?_
  refine Cd.region ?_
  refine Ol.p mvi ?_
  refine Ol.p mvs ?_
  refine Ol.p (lens sl_L_L_api_Tile) ?_
  refine Ol.p lsi ?_
  refine Ol.nil ?_
  refine Cd.cond rfl (fun h => absurd h (by decide)) (fun _ => ?_)
  refine Cd.exit (id := 16) ?_
  refine Cd.seq ?_
  refine Cd.region ?_
  refine Ol.p asb ?_
  refine Ol.nil ?_
  exact Cd.ret ⟨.bool true, ret1 rfl rfl, [], Keep.nil, rfl, rfl⟩
theorem kit_flatCalls_nil {w : World} : Ct Tryz.prog 105 #[.slice none 0 0] w (Is (.bool true)) := by
  refine Ct.mk Tryz.func105 rfl rfl ?_
  refine Cd.seq ?_
  refine Cd.region ?_
  refine Ol.p asb ?_
  refine Ol.nil ?_
  refine Cd.seq ?_
  refine Cd.seq ?_
  refine Cd.region ?_
  refine Ol.p asi ?_
  refine Ol.nil ?_
  refine Cd.block ?_
  refine Cd.loop (fun m σ L => Has σ [(0, .slice none 0 0), (3, .int .i64 0)] ∧ [] = L) (n := 0) ⟨⟨rfl, rfl, trivial⟩, rfl⟩ ?_
  rintro _ σ L ⟨hs, rfl⟩
  refine Cd.has hs ?_
  clear hs
  refine Cd.seq ?_
  refine Cd.seq ?_
  refine Cd.region ?_
  refine Ol.p mvi ?_
  refine Ol.p mvs ?_
  refine Ol.p (lens sl_L_L_api_Call) ?_
  refine Ol.p lsi ?_
  refine Ol.nil ?_
  refine Cd.cond rfl (fun h => absurd h (by decide)) (fun _ => ?_)
  refine Cd.exit (id := 0) ?_
  refine Cd.seq ?_
  refine Cd.region ?_
  refine Ol.p mvs ?_
  refine Ol.p (lens sl_L_L_api_Call) ?_
  refine Ol.x (mks (n := 0) (c := 0) sl_L_L_api_Call zr_L_api_Call) ?_
  rintro _ _ ⟨gm, rfl, rfl⟩
  refine Ol.p ass ?_
  refine Ol.nil ?_
  obtain ⟨VG, hVG⟩ : ∃ V, V = Value.slice (some ⟨gm, 0, none⟩) 0 0 := ⟨_, rfl⟩
  rw [← hVG]
  obtain ⟨LG, hLG⟩ : ∃ LG : List Res, LG = [row VG 177 1 0 ((madeCells (Value.slice none 0 0).cells (0 * 1)).toList.take (0 * 1))] := ⟨_, rfl⟩
  rw [← hLG]
  refine Cd.seq ?_
  refine Cd.seq ?_
  refine Cd.region ?_
  refine Ol.p asi ?_
  refine Ol.nil ?_
  refine Cd.block ?_
  refine Cd.loop (fun m σ L => Has σ [(0, .slice none 0 0), (5, VG), (6, .int .i64 0)] ∧ LG = L) (n := 0) ⟨⟨rfl, rfl, rfl, trivial⟩, rfl⟩ ?_
  rintro _ σ L ⟨hs, rfl⟩
  refine Cd.has hs ?_
  clear hs
  refine Cd.seq ?_
  refine Cd.seq ?_
  refine Cd.region ?_
  refine Ol.p mvi ?_
  refine Ol.p mvs ?_
  refine Ol.p (lens sl_L_L_api_Call) ?_
  refine Ol.p lsi ?_
  refine Ol.nil ?_
  refine Cd.cond rfl (fun h => absurd h (by decide)) (fun _ => ?_)
  refine Cd.exit (id := 4) ?_
  refine Cd.seq ?_
  refine Cd.seq ?_
  refine Cd.region ?_
  refine Ol.p asi ?_
  refine Ol.nil ?_
  refine Cd.block ?_
  refine Cd.loop (fun m σ L => Has σ [(0, .slice none 0 0), (5, VG), (9, .int .i64 0)] ∧ LG = L) (n := 0) ⟨⟨rfl, rfl, rfl, trivial⟩, rfl⟩ ?_
  rintro _ σ L ⟨hs, rfl⟩
  refine Cd.has hs ?_
  clear hs
  refine Cd.seq ?_
  refine Cd.seq ?_
  refine Cd.region ?_
  refine Ol.p mvi ?_
  refine Ol.p mvs ?_
  refine Ol.p (lens sl_L_L_api_Call) ?_
  refine Ol.p lsi ?_
  refine Ol.nil ?_
  refine Cd.cond rfl (fun h => absurd h (by decide)) (fun _ => ?_)
  refine Cd.exit (id := 8) ?_
  refine Cd.seq ?_
  refine Cd.seq ?_
  refine Cd.region ?_
  refine Ol.p asi ?_
  refine Ol.nil ?_
  refine Cd.block ?_
  refine Cd.loop (fun m σ L => Has σ [(0, .slice none 0 0), (5, VG), (11, .int .i64 0)] ∧ LG = L) (n := 0) ⟨⟨rfl, rfl, rfl, trivial⟩, rfl⟩ ?_
  rintro _ σ L ⟨hs, rfl⟩
  refine Cd.has hs ?_
  clear hs
  refine Cd.seq ?_
  refine Cd.seq ?_
  refine Cd.region ?_
  refine Ol.p mvi ?_
  refine Ol.p mvs ?_
  refine Ol.p (lens sl_L_L_api_Call) ?_
  refine Ol.p lsi ?_
  refine Ol.nil ?_
  refine Cd.cond rfl (fun h => absurd h (by decide)) (fun _ => ?_)
  refine Cd.exit (id := 12) ?_
  refine Cd.seq ?_
  refine Cd.seq ?_
  refine Cd.region ?_
  refine Ol.p asi ?_
  refine Ol.nil ?_
  refine Cd.block ?_
  refine Cd.loop (fun m σ L => Has σ [(0, .slice none 0 0), (5, VG), (14, .int .i64 0)] ∧ LG = L) (n := 0) ⟨⟨rfl, rfl, rfl, trivial⟩, rfl⟩ ?_
  rintro _ σ L ⟨hs, rfl⟩
  refine Cd.has hs ?_
  clear hs
  refine Cd.seq ?_
  refine Cd.seq ?_
  refine Cd.region ?_
  refine Ol.p mvi ?_
  refine Ol.p mvs ?_
  refine Ol.p (lens sl_L_L_api_Call) ?_
  refine Ol.p lsi ?_
  refine Ol.nil ?_
  refine Cd.cond rfl (fun h => absurd h (by decide)) (fun _ => ?_)
  refine Cd.exit (id := 16) ?_
  refine Cd.seq ?_
  refine Cd.region ?_
  refine Ol.p asb ?_
  refine Ol.nil ?_
  exact Cd.ret ⟨.bool true, ret1 rfl rfl, [], Keep.nil, rfl, rfl⟩
end
end Go.Proofs.YtkefmjhagmacfaaGreatDoor

/- The kit: ApartInts, walked. -/
namespace Go.Proofs.YtkefmjhagmacfaaGreatDoor
set_option linter.unusedVariables false
set_option linter.unusedSimpArgs false
open Go Go.RowKit
set_option maxRecDepth 100000
section
/-- A bag that holds lists of numbers alone. -/
def bagC (v : Value) : Array Value := #[.slice none 0 0, .slice none 0 0, v, .slice none 0 0, .slice none 0 0, .slice none 0 0, .slice none 0 0, .slice none 0 0, .slice none 0 0, .slice none 0 0, .slice none 0 0, .slice none 0 0, .slice none 0 0, .slice none 0 0, .slice none 0 0, .slice none 0 0, .slice none 0 0]
theorem hdL_succ (N : Nat) (it : Nat → Li) : hdL (N + 1) it = hdL N it ++ [.slice (it N).A (it N).n (it N).c] := by simp [hdL, List.range_succ, Li.v]
theorem kit_putInts_cm {w0 : World} {B g n c nl cl : Nat} {A Al : Option Addr} {hs : List Value} (hho : n < 50000) :
    Cm Tryz.prog 69 #[.pointer (some ⟨g, 0, none⟩), .slice Al nl cl] w0 B [blk g (.cells (bagC (.slice A n c)) 100), row (.slice A n c) 22 1 n hs] (fun v L => v = .tuple #[] ∧ ∃ A' c', L = [blk g (.cells (bagC (.slice A' (n + 1) c')) 100), row (.slice A' (n + 1) c') 22 1 (n + 1) (hs ++ [.slice Al nl cl])]) := by
  refine Cm.mk Tryz.func69 rfl rfl fun M => ?_
  refine Cd.region ?_
  refine Ol.p mvp ?_
  refine Ol.p mvp ?_
  refine Ol.p nlc ?_
  refine Ol.p (fda fd_kit_bag_2) ?_
  refine Ol.p (ld (v := .slice A n c) one_L_L_int (Rd.blk (i := 0) (k := 2) rfl rfl)) ?_
  refine Ol.p mvs ?_
  refine Ol.x (bsv [.slice Al nl cl] sl_L_L_int zr_L_int (by simp [Value.cells])) ?_
  rintro _ _ ⟨g9, rfl, rfl⟩
  refine Ol.x (apn (i := 2) (n := n) (m := 1) sl_L_L_int zr_L_int rfl (by decide) rfl (Src.row (i := 0) rfl rfl) (by intro u hu; simp at hu; subst hu; rfl) (by unfold maxLen; omega) (by omega)) ?_
  rintro _ _ ⟨A', c', rfl, rfl⟩
  refine Ol.p nlc ?_
  refine Ol.p (fda fd_kit_bag_2) ?_
  refine Ol.s (sto (i := 1) (k := 2) (v := .slice A' (n + 1) c') (.inr sz_L_L_int) rfl rfl rfl (by simp [bagC]) rfl) ?_
  refine Ol.nil ?_
  exact ⟨_, ret0 rfl, _, .sub (.cons _ (List.Sublist.refl _)), rfl, A', c', rfl⟩

theorem kit_apart_cm {w0 : World} {B g N cL : Nat} {AL : Option Addr} {it : Nat → Li} {R0 : Nat → Res} (hN : N < 50000) (h0 : ∀ k, k < N → OwnP k 0 (it k) (R0 k)) (hns : ∀ k, k < N → (it k).n < 2 ^ 39) :
    Cm Tryz.prog 70 #[.pointer (some ⟨g, 0, none⟩)] w0 B (blk g (.cells (bagC (.slice AL N cL)) 100) :: row (.slice AL N cL) 22 1 N (hdL N it) :: resL N R0) (Is (.bool true)) := by
  refine Cm.mk Tryz.func70 rfl rfl fun M => ?_
  refine Cd.seq ?_
  refine Cd.region ?_
  refine Ol.p asb ?_
  refine Ol.nil ?_
  refine Cd.seq ?_
  refine Cd.region ?_
  refine Ol.p mvp ?_
  refine Ol.p nlc ?_
  refine Ol.p (fda fd_kit_bag_0) ?_
  refine Ol.p (ld (v := .slice none 0 0) one_L_L_uint32 (Rd.blk (i := 0) (k := 0) rfl rfl)) ?_
  refine Ol.s (cl en_kit_flatLimbs (fun M w' hh => kit_flatLimbs_nil)) ?_
  refine Ol.p mvb ?_
  refine Ol.gp rfl mvp ?_
  refine Ol.gp rfl nlc ?_
  refine Ol.gp rfl (fda fd_kit_bag_1) ?_
  refine Ol.gp rfl (ld (v := .slice none 0 0) one_L_L_uint64 (Rd.blk (i := 0) (k := 1) rfl rfl)) ?_
  refine Ol.gs rfl (cl en_kit_flatWords (fun M w' hh => kit_flatWords_nil)) ?_
  refine Ol.p (pkTb rfl) ?_
  refine Ol.p mvb ?_
  refine Ol.gp rfl mvp ?_
  refine Ol.gp rfl nlc ?_
  refine Ol.gp rfl (fda fd_kit_bag_2) ?_
  refine Ol.gp rfl (ld (v := .slice AL N cL) one_L_L_int (Rd.blk (i := 0) (k := 2) rfl rfl)) ?_
  refine Ol.gx rfl (sp_callm (vs := [.slice AL N cL]) (Lin := row (.slice AL N cL) 22 1 N (hdL N it) :: resL N R0) (L2 := [blk g (.cells (bagC (.slice AL N cL)) 100)]) en_kit_flatInts (List.perm_append_comm (l₁ := [blk g (.cells (bagC (.slice AL N cL)) 100)])) (kit_flatInts_cm hN h0 hns)) ?_
  rintro _ _ ⟨_, rfl, rfl, rfl⟩
  refine Ol.p (pkTb rfl) ?_
  refine Ol.p mvb ?_
  refine Ol.gp rfl mvp ?_
  refine Ol.gp rfl nlc ?_
  refine Ol.gp rfl (fda fd_kit_bag_3) ?_
  refine Ol.gp rfl (ld (v := .slice none 0 0) one_L_L_int64 (Rd.blk (i := 0) (k := 3) rfl rfl)) ?_
  refine Ol.gs rfl (cl en_kit_flatLongs (fun M w' hh => kit_flatLongs_nil)) ?_
  refine Ol.p (pkTb rfl) ?_
  refine Ol.p mvb ?_
  refine Ol.gp rfl mvp ?_
  refine Ol.gp rfl nlc ?_
  refine Ol.gp rfl (fda fd_kit_bag_4) ?_
  refine Ol.gp rfl (ld (v := .slice none 0 0) one_L_L_string (Rd.blk (i := 0) (k := 4) rfl rfl)) ?_
  refine Ol.gs rfl (cl en_kit_flatTexts (fun M w' hh => kit_flatTexts_nil)) ?_
  refine Ol.p (pkTb rfl) ?_
  refine Ol.p mvb ?_
  refine Ol.gp rfl mvp ?_
  refine Ol.gp rfl nlc ?_
  refine Ol.gp rfl (fda fd_kit_bag_5) ?_
  refine Ol.gp rfl (ld (v := .slice none 0 0) one_L_L_uint8 (Rd.blk (i := 0) (k := 5) rfl rfl)) ?_
  refine Ol.gs rfl (cl en_kit_flatBytes (fun M w' hh => kit_flatBytes_nil)) ?_
  refine Ol.p (pkTb rfl) ?_
  refine Ol.p mvb ?_
  refine Ol.gp rfl mvp ?_
  refine Ol.gp rfl nlc ?_
  refine Ol.gp rfl (fda fd_kit_bag_6) ?_
  refine Ol.gp rfl (ld (v := .slice none 0 0) one_L_L_bool (Rd.blk (i := 0) (k := 6) rfl rfl)) ?_
  refine Ol.gs rfl (cl en_kit_flatTruths (fun M w' hh => kit_flatTruths_nil)) ?_
  refine Ol.p (pkTb rfl) ?_
  refine Ol.p mvb ?_
  refine Ol.gp rfl mvp ?_
  refine Ol.gp rfl nlc ?_
  refine Ol.gp rfl (fda fd_kit_bag_7) ?_
  refine Ol.gp rfl (ld (v := .slice none 0 0) one_L_L_api_Ins (Rd.blk (i := 0) (k := 7) rfl rfl)) ?_
  refine Ol.gs rfl (cl en_kit_flatRow (fun M w' hh => kit_flatRow_nil)) ?_
  refine Ol.p (pkTb rfl) ?_
  refine Ol.p mvb ?_
  refine Ol.gp rfl mvp ?_
  refine Ol.gp rfl nlc ?_
  refine Ol.gp rfl (fda fd_kit_bag_8) ?_
  refine Ol.gp rfl (ld (v := .slice none 0 0) one_L_L_api_Block (Rd.blk (i := 0) (k := 8) rfl rfl)) ?_
  refine Ol.gs rfl (cl en_kit_flatBlocks (fun M w' hh => kit_flatBlocks_nil)) ?_
  refine Ol.p (pkTb rfl) ?_
  refine Ol.p mvb ?_
  refine Ol.gp rfl mvp ?_
  refine Ol.gp rfl nlc ?_
  refine Ol.gp rfl (fda fd_kit_bag_9) ?_
  refine Ol.gp rfl (ld (v := .slice none 0 0) one_L_L_api_Func (Rd.blk (i := 0) (k := 9) rfl rfl)) ?_
  refine Ol.gs rfl (cl en_kit_flatFuncs (fun M w' hh => kit_flatFuncs_nil)) ?_
  refine Ol.p (pkTb rfl) ?_
  refine Ol.p mvb ?_
  refine Ol.gp rfl mvp ?_
  refine Ol.gp rfl nlc ?_
  refine Ol.gp rfl (fda fd_kit_bag_10) ?_
  refine Ol.gp rfl (ld (v := .slice none 0 0) one_L_L_api_Target (Rd.blk (i := 0) (k := 10) rfl rfl)) ?_
  refine Ol.gs rfl (cl en_kit_flatTargets (fun M w' hh => kit_flatTargets_nil)) ?_
  refine Ol.p (pkTb rfl) ?_
  refine Ol.p mvb ?_
  refine Ol.gp rfl mvp ?_
  refine Ol.gp rfl nlc ?_
  refine Ol.gp rfl (fda fd_kit_bag_11) ?_
  refine Ol.gp rfl (ld (v := .slice none 0 0) one_L_L_api_Machine (Rd.blk (i := 0) (k := 11) rfl rfl)) ?_
  refine Ol.gs rfl (cl en_kit_flatMachines (fun M w' hh => kit_flatMachines_nil)) ?_
  refine Ol.p (pkTb rfl) ?_
  refine Ol.p mvb ?_
  refine Ol.gp rfl mvp ?_
  refine Ol.gp rfl nlc ?_
  refine Ol.gp rfl (fda fd_kit_bag_12) ?_
  refine Ol.gp rfl (ld (v := .slice none 0 0) one_L_L_api_Loc (Rd.blk (i := 0) (k := 12) rfl rfl)) ?_
  refine Ol.gs rfl (cl en_kit_flatLocs (fun M w' hh => kit_flatLocs_nil)) ?_
  refine Ol.p (pkTb rfl) ?_
  refine Ol.p mvb ?_
  refine Ol.gp rfl mvp ?_
  refine Ol.gp rfl nlc ?_
  refine Ol.gp rfl (fda fd_kit_bag_13) ?_
  refine Ol.gp rfl (ld (v := .slice none 0 0) one_L_L_api_Fact (Rd.blk (i := 0) (k := 13) rfl rfl)) ?_
  refine Ol.gs rfl (cl en_kit_flatFacts (fun M w' hh => kit_flatFacts_nil)) ?_
  refine Ol.p (pkTb rfl) ?_
  refine Ol.p mvb ?_
  refine Ol.gp rfl mvp ?_
  refine Ol.gp rfl nlc ?_
  refine Ol.gp rfl (fda fd_kit_bag_14) ?_
  refine Ol.gp rfl (ld (v := .slice none 0 0) one_L_L_api_Edge (Rd.blk (i := 0) (k := 14) rfl rfl)) ?_
  refine Ol.gs rfl (cl en_kit_flatEdges (fun M w' hh => kit_flatEdges_nil)) ?_
  refine Ol.p (pkTb rfl) ?_
  refine Ol.p mvb ?_
  refine Ol.gp rfl mvp ?_
  refine Ol.gp rfl nlc ?_
  refine Ol.gp rfl (fda fd_kit_bag_15) ?_
  refine Ol.gp rfl (ld (v := .slice none 0 0) one_L_L_api_Tile (Rd.blk (i := 0) (k := 15) rfl rfl)) ?_
  refine Ol.gs rfl (cl en_kit_flatTiles (fun M w' hh => kit_flatTiles_nil)) ?_
  refine Ol.p (pkTb rfl) ?_
  refine Ol.p mvb ?_
  refine Ol.gp rfl mvp ?_
  refine Ol.gp rfl nlc ?_
  refine Ol.gp rfl (fda fd_kit_bag_16) ?_
  refine Ol.gp rfl (ld (v := .slice none 0 0) one_L_L_api_Call (Rd.blk (i := 0) (k := 16) rfl rfl)) ?_
  refine Ol.gs rfl (cl en_kit_flatCalls (fun M w' hh => kit_flatCalls_nil)) ?_
  refine Ol.p (pkTb rfl) ?_
  refine Ol.p asb ?_
  refine Ol.nil ?_
  exact Cd.ret ⟨.bool true, ret1 rfl rfl, [], Keep.nil, rfl, rfl⟩
theorem kit_ApartRes_cm {w0 : World} {B N cL : Nat} {AL : Option Addr} {it : Nat → Li} {R0 : Nat → Res} (hN : N < 50000) (h0 : ∀ k, k < N → OwnP k 0 (it k) (R0 k)) (hns : ∀ k, k < N → (it k).n < 2 ^ 39) :
    Cm Tryz.prog 29 #[.slice AL N cL] w0 B (row (.slice AL N cL) 22 1 N (hdL N it) :: resL N R0) (Is (.bool true)) := by
  refine Cm.mk Tryz.func29 rfl rfl fun M => ?_
  obtain ⟨RS, hRS⟩ : ∃ RS, RS = resL N R0 := ⟨_, rfl⟩
  rw [← hRS]
  refine Cd.seq ?_
  refine Cd.region ?_
  refine Ol.p asb ?_
  refine Ol.nil ?_
  refine Cd.nr 22 1 ?_
  refine Cd.seq ?_
  refine Cd.region ?_
  refine Ol.p (bds (cs := bagC (.slice none 0 0)) bs_kit_bag zr_kit_bag (hf := by kernel_rfl)) ?_
  refine Ol.x bxg ?_
  rintro _ _ ⟨g6, rfl, rfl⟩
  refine Ol.p asp ?_
  refine Ol.nil ?_
  refine Cd.seq ?_
  refine Cd.seq ?_
  refine Cd.region ?_
  refine Ol.p asi ?_
  refine Ol.nil ?_
  refine Cd.block ?_
  refine Cd.loop (fun m σ L => ∃ (k : Nat) (A : Option Addr) (c : Nat), m = N - k ∧ k ≤ N ∧ Has σ [(0, .slice AL N cL), (3, .pointer (some ⟨g6, 0, none⟩)), (4, .int .i64 k)] ∧ blk g6 (.cells (bagC (.slice A k c)) 100) :: row (.slice A k c) 22 1 k (hdL k it) :: row (.slice AL N cL) 22 1 N (hdL N it) :: RS = L) (n := N) ⟨0, none, 0, rfl, Nat.zero_le _, ⟨rfl, rfl, rfl, trivial⟩, rfl⟩ ?_
  rintro _ σ L ⟨k, A, c, rfl, hk, hs, rfl⟩
  refine Cd.has hs ?_
  clear hs
  refine Cd.seq ?_
  refine Cd.seq ?_
  refine Cd.region ?_
  refine Ol.p mvi ?_
  refine Ol.p mvs ?_
  refine Ol.p (lens sl_L_L_int) ?_
  refine Ol.p lsi ?_
  refine Ol.nil ?_
  refine Cd.cond rfl (fun h => ?_) (fun h => ?_)
  · have hlt : k < N := by
      have h : decide ((k : Int) < (N : Int)) = true := h
      have := of_decide_eq_true h
      omega
    have hd : (hdL N it)[k * 1]? = some (.slice (it k).A (it k).n (it k).c) := by rw [Nat.mul_one, hdL_get hlt]
    refine Cd.skip ?_
    refine Cd.seq ?_
    refine Cd.block ?_
    refine Cd.region ?_
    refine Ol.p mvp ?_
    refine Ol.p mvs ?_
    refine Ol.p mvi ?_
    refine Ol.p (ixn (ix := k) sl_L_L_int (Som.row (i := 2) rfl (by omega))) ?_
    refine Ol.p (ld (v := .slice (it k).A (it k).n (it k).c) one_L_int (Rd.row (i := 2) rfl hd)) ?_
    refine Ol.x (sp_callm (vs := [.pointer (some ⟨g6, 0, none⟩), .slice (it k).A (it k).n (it k).c]) (Lin := [blk g6 (.cells (bagC (.slice A k c)) 100), row (.slice A k c) 22 1 k (hdL k it)]) (L2 := row (.slice AL N cL) 22 1 N (hdL N it) :: RS) en_P_kit_bag_putInts (.refl _) (kit_putInts_cm (by omega))) ?_
    rintro _ _ ⟨_, rfl, rfl, A', c', rfl⟩
    refine Ol.nil ?_
    refine Cd.region ?_
    refine Ol.p mvi ?_
    refine Ol.p addi ?_
    refine Ol.p asi ?_
    refine Ol.nil ?_
    exact ⟨N - (k + 1), by omega, k + 1, A', c', rfl, by omega, ⟨rfl, rfl, rfl, trivial⟩, by rw [hdL_succ]; rfl⟩
  have hke : k = N := by
    have h : decide ((k : Int) < (N : Int)) = false := h
    have := of_decide_eq_false h
    omega
  obtain rfl : N = k := hke.symm
  refine Cd.exit (id := 0) ?_
  refine Cd.seq ?_
  refine Cd.region ?_
  refine Ol.p mvp ?_
  refine Ol.x (sp_callm (vs := [.pointer (some ⟨g6, 0, none⟩)]) (Lin := blk g6 (.cells (bagC (.slice A N c)) 100) :: row (.slice A N c) 22 1 N (hdL N it) :: resL N R0) (L2 := [row (.slice AL N cL) 22 1 N (hdL N it)]) en_P_kit_bag_apart (by rw [hRS]; exact perm_count fun _ x => by simp only [List.set_cons_succ, List.set_cons_zero, List.count_append, List.count_cons, List.count_nil, List.cons_append, List.nil_append]; omega) (kit_apart_cm hN h0 hns)) ?_
  rintro _ _ ⟨_, rfl, rfl, rfl⟩
  refine Ol.p asb ?_
  refine Ol.nil ?_
  exact Cd.ret ⟨.bool true, ret1 rfl rfl, [], Keep.nil, rfl, rfl⟩
end
end Go.Proofs.YtkefmjhagmacfaaGreatDoor

/- How great a function is: walked. -/
namespace Go.Proofs.YtkefmjhagmacfaaGreatDoor
set_option linter.unusedVariables false
open Go Go.RowKit
set_option maxRecDepth 100000

def argSum (l : List RIns) : Nat := (l.map fun i => i.args.length).sum
def bsz (b : RBlk) : Nat := 1 + b.ins.length + argSum b.ins
def blocksSz (l : List RBlk) : Nat := (l.map bsz).sum
def RFun.sz (f : RFun) : Nat := f.params.length + blocksSz f.blocks
theorem argSum_snoc {l : List RIns} {k : Nat} {i : RIns} (h : l[k]? = some i) : argSum (l.take (k + 1)) = argSum (l.take k) + i.args.length := by
  unfold argSum
  rw [take_snoc_ h, List.map_append, List.sum_append]; simp
theorem blocksSz_snoc {l : List RBlk} {k : Nat} {b : RBlk} (h : l[k]? = some b) : blocksSz (l.take (k + 1)) = blocksSz (l.take k) + bsz b := by
  unfold blocksSz
  rw [take_snoc_ h, List.map_append, List.sum_append]; simp
/-- What is counted: all, or more than the bound. -/
def Counted (n most total : Nat) : Prop := (n ≤ most → n = total) ∧ n < 2 ^ 55
theorem counted_ex {most : Nat} (hm : most < 2 ^ 40) (t : Nat) : ∃ n, Counted n most t := by
  rcases Nat.lt_or_ge most t with h | h
  · exact ⟨most + 1, fun h' => by omega, by omega⟩
  · exact ⟨t, fun _ => rfl, by omega⟩
section
set_option maxHeartbeats 1000000 in
theorem kit_BlocksOf_ct {w : World} {f : RFun} {most : Nat} (hf : FunAt w w.heap.size f) (hfit : Fit f) (hm : most < 2 ^ 40) : Ct Tryz.prog 47 #[.slice f.bA f.blocks.length f.bC, .int .i64 most] w (fun v R => ∃ n : Nat, v = .int .i64 n ∧ Counted n most (blocksSz f.blocks) ∧ R = []) := by
  have hbl := hfit.blen
  refine Ct.mk Tryz.func47 rfl rfl ?_
  refine Cd.seq ?_
  refine Cd.region ?_
  refine Ol.p asi ?_
  refine Ol.nil ?_
  refine Cd.seq ?_
  refine Cd.region ?_
  refine Ol.p asi ?_
  refine Ol.nil ?_
  refine Cd.seq ?_
  refine Cd.seq ?_
  refine Cd.region ?_
  refine Ol.p asi ?_
  refine Ol.nil ?_
  refine Cd.block ?_
  refine Cd.loop (fun m σ L => ∃ k n : Nat, m = f.blocks.length - k ∧ k ≤ f.blocks.length ∧ Has σ [(0, .slice f.bA f.blocks.length f.bC), (1, .int .i64 most), (5, .int .i64 n), (6, .int .i64 k)] ∧ L = [] ∧ Counted n most (blocksSz (f.blocks.take k))) (n := f.blocks.length) ⟨0, 0, rfl, Nat.zero_le _, ⟨rfl, rfl, rfl, rfl, trivial⟩, rfl, fun _ => rfl, by decide⟩ ?_
  rintro _ σ L ⟨k, n, rfl, hk, hs, rfl, hn⟩
  obtain ⟨hn1, hn2⟩ := hn
  refine Cd.has hs ?_
  refine Cd.seq ?_
  refine Cd.seq ?_
  cases h4 : decide ((k : Int) < (f.blocks.length : Int)) with
  | true =>
    have hlt : k < f.blocks.length := by simpa using h4
    obtain ⟨b, hb⟩ : ∃ b, f.blocks[k]? = some b := ⟨_, List.getElem?_eq_getElem hlt⟩
    have hbm : b ∈ f.blocks := List.mem_of_getElem? hb
    have hil := hfit.ilen b hbm
    have hins := hf.ins b hbm
    have hsl : Som w w.heap.size ([] : List Res) f.bA := Som.slc hf.blocks (by omega)
    have hc0 : (f.blocks.flatMap RBlk.cells)[k * 5 + 0]? = some (.slice b.iA b.ins.length b.iC) := hf.cell hb (by decide)
    refine Cd.region ?_
    refine Ol.p mvi ?_
    refine Ol.p mvs ?_
    refine Ol.p (lens sl_L_api_Block) ?_
    refine Ol.p lsi ?_
    refine Ol.p mvb ?_
    refine Ol.gp h4 mvi ?_
    refine Ol.gp h4 mvi ?_
    refine Ol.gp h4 lei ?_
    refine Ol.p (pkTb h4) ?_
    refine Ol.nil ?_
    refine Cd.cond rfl (fun h => ?_) (fun h => ?_)
    · have hle : n ≤ most := by simpa using h
      have hne := hn1 hle
      refine Cd.skip ?_
      refine Cd.mid (fun σ' L' => ∃ n' : Nat, Has σ' [(0, .slice f.bA f.blocks.length f.bC), (1, .int .i64 most), (5, .int .i64 n'), (6, .int .i64 k)] ∧ L' = [] ∧ Counted n' most (blocksSz (f.blocks.take (k + 1)))) ?_ ?_
      · refine Cd.block ?_
        refine Cd.seq ?_
        refine Cd.region ?_
        refine Ol.p mvi ?_
        refine Ol.p addi ?_
        refine Ol.p mvs ?_
        refine Ol.p mvi ?_
        refine Ol.p (ixn sl_L_api_Block hsl) ?_
        refine Ol.p (fdp fd_api_Block_0) ?_
        refine Ol.p (ld one_L_api_Ins (Rd.slc hf.blocks hc0)) ?_
        refine Ol.p (lens sl_L_api_Ins) ?_
        refine Ol.p addi ?_
        refine Ol.p asi ?_
        refine Ol.nil ?_
        refine Cd.seq ?_
        refine Cd.region ?_
        refine Ol.p asi ?_
        refine Ol.nil ?_
        refine Cd.block ?_
        refine Cd.loop (fun m σ L => ∃ j n : Nat, m = b.ins.length - j ∧ j ≤ b.ins.length ∧ Has σ [(0, .slice f.bA f.blocks.length f.bC), (1, .int .i64 most), (5, .int .i64 n), (6, .int .i64 k), (7, .int .i64 j)] ∧ L = [] ∧ (n ≤ most → n = blocksSz (f.blocks.take k) + 1 + b.ins.length + argSum (b.ins.take j)) ∧ n < 2 ^ 55 ∧ (j = 0 → n ≤ most + 1 + b.ins.length)) (n := b.ins.length) ⟨0, n + 1 + b.ins.length, rfl, Nat.zero_le _, ⟨rfl, rfl, rfl, rfl, rfl, trivial⟩, rfl, fun _ => by rw [hne]; rfl, by omega, fun _ => by omega⟩ ?_
        rintro _ σ L ⟨j, n, rfl, hj, hs, rfl, hq1, hq2, hq3⟩
        refine Cd.has hs ?_
        refine Cd.seq ?_
        refine Cd.seq ?_
        cases h8 : decide ((j : Int) < (b.ins.length : Int)) with
        | true =>
          have hjl : j < b.ins.length := by simpa using h8
          obtain ⟨i, hi⟩ : ∃ i, b.ins[j]? = some i := ⟨_, List.getElem?_eq_getElem hjl⟩
          have him : i ∈ b.ins := List.mem_of_getElem? hi
          have hal := hfit.alen b hbm i him
          have hc6 : (b.ins.flatMap RIns.cells)[j * 8 + 6]? = some (.slice i.aA i.args.length i.aC) := flat_get RIns.len _ _ _ _ hi (by decide)
          refine Cd.region ?_
          refine Ol.p mvi ?_
          refine Ol.p mvs ?_
          refine Ol.p mvi ?_
          refine Ol.p (ixn sl_L_api_Block hsl) ?_
          refine Ol.p (fdp fd_api_Block_0) ?_
          refine Ol.p (ld one_L_api_Ins (Rd.slc hf.blocks hc0)) ?_
          refine Ol.p (lens sl_L_api_Ins) ?_
          refine Ol.p lsi ?_
          refine Ol.p mvb ?_
          refine Ol.gp h8 mvi ?_
          refine Ol.gp h8 mvi ?_
          refine Ol.gp h8 lei ?_
          refine Ol.p (pkTb h8) ?_
          refine Ol.nil ?_
          refine Cd.cond rfl (fun h => ?_) (fun h => ?_)
          · have hle : n ≤ most := by simpa using h
            refine Cd.skip ?_
            refine Cd.seq ?_
            refine Cd.block ?_
            refine Cd.region ?_
            refine Ol.p mvi ?_
            refine Ol.p mvs ?_
            refine Ol.p mvi ?_
            refine Ol.p (ixn sl_L_api_Block hsl) ?_
            refine Ol.p (fdp fd_api_Block_0) ?_
            refine Ol.p (ld one_L_api_Ins (Rd.slc hf.blocks hc0)) ?_
            refine Ol.p mvi ?_
            refine Ol.p (ixn sl_L_api_Ins (Som.slc hins (by omega))) ?_
            refine Ol.p (fdp fd_api_Ins_6) ?_
            refine Ol.p (ld one_L_int (Rd.slc hins hc6)) ?_
            refine Ol.p (lens sl_L_int) ?_
            refine Ol.p addi ?_
            refine Ol.p asi ?_
            refine Ol.nil ?_
            refine Cd.region ?_
            refine Ol.p mvi ?_
            refine Ol.p addi ?_
            refine Ol.p asi ?_
            refine Ol.nil ?_
            refine ⟨b.ins.length - (j + 1), by omega, j + 1, n + i.args.length, rfl, by omega, ⟨rfl, rfl, rfl, rfl, rfl, trivial⟩, rfl, fun h' => ?_, by omega, fun h' => by omega⟩
            rw [argSum_snoc hi, hq1 hle]
            omega
          · have hgt : most < n := by
              have : ¬ (n : Int) ≤ most := by simpa using h
              omega
            refine Cd.exit (id := 2) ?_
            exact ⟨n, ⟨rfl, rfl, rfl, rfl, trivial⟩, rfl, fun h' => by omega, hq2⟩
        | false =>
          have hje : j = b.ins.length := by
            have : ¬ (j : Int) < b.ins.length := by simpa using h8
            omega
          refine Cd.region ?_
          refine Ol.p mvi ?_
          refine Ol.p mvs ?_
          refine Ol.p mvi ?_
          refine Ol.p (ixn sl_L_api_Block hsl) ?_
          refine Ol.p (fdp fd_api_Block_0) ?_
          refine Ol.p (ld one_L_api_Ins (Rd.slc hf.blocks hc0)) ?_
          refine Ol.p (lens sl_L_api_Ins) ?_
          refine Ol.p lsi ?_
          refine Ol.p mvb ?_
          refine Ol.gn h8 ?_
          refine Ol.gn h8 ?_
          refine Ol.gn h8 ?_
          refine Ol.p (pkFb h8) ?_
          refine Ol.nil ?_
          refine Cd.cond rfl (fun h => by cases h) (fun h => ?_)
          refine Cd.exit (id := 2) ?_
          refine ⟨n, ⟨rfl, rfl, rfl, rfl, trivial⟩, rfl, fun h' => ?_, hq2⟩
          rw [hq1 h', hje, List.take_length, blocksSz_snoc hb]
          unfold bsz; omega
      · rintro σ' _ ⟨n', hs', rfl, hn'⟩
        refine Cd.has hs' ?_
        refine Cd.region ?_
        refine Ol.p mvi ?_
        refine Ol.p addi ?_
        refine Ol.p asi ?_
        refine Ol.nil ?_
        exact ⟨f.blocks.length - (k + 1), by omega, k + 1, n', rfl, by omega, ⟨rfl, rfl, rfl, rfl, trivial⟩, rfl, hn'⟩
    · have hgt : most < n := by
        have : ¬ (n : Int) ≤ most := by simpa using h
        omega
      refine Cd.exit (id := 0) ?_
      refine Cd.seq ?_
      refine Cd.region ?_
      refine Ol.p mvi ?_
      refine Ol.p asi ?_
      refine Ol.nil ?_
      exact Cd.ret ⟨.int .i64 _, ret1 rfl rfl, [], .nil, n, rfl, ⟨fun h' => by omega, hn2⟩, rfl⟩
  | false =>
    have hke : k = f.blocks.length := by
      have : ¬ (k : Int) < f.blocks.length := by simpa using h4
      omega
    subst hke
    refine Cd.region ?_
    refine Ol.p mvi ?_
    refine Ol.p mvs ?_
    refine Ol.p (lens sl_L_api_Block) ?_
    refine Ol.p lsi ?_
    refine Ol.p mvb ?_
    refine Ol.gn h4 ?_
    refine Ol.gn h4 ?_
    refine Ol.gn h4 ?_
    refine Ol.p (pkFb h4) ?_
    refine Ol.nil ?_
    refine Cd.cond rfl (fun h => by cases h) (fun h => ?_)
    refine Cd.exit (id := 0) ?_
    refine Cd.seq ?_
    refine Cd.region ?_
    refine Ol.p mvi ?_
    refine Ol.p asi ?_
    refine Ol.nil ?_
    rw [List.take_length] at hn1
    exact Cd.ret ⟨.int .i64 _, ret1 rfl rfl, [], .nil, n, rfl, ⟨hn1, hn2⟩, rfl⟩
theorem kit_FuncOf_ct {w : World} {f : RFun} {most : Nat} (hf : FunAt w w.heap.size f) (hfit : Fit f) (hm : most < 2 ^ 40) : Ct Tryz.prog 7 #[f.val, .int .i64 most] w (fun v R => ∃ n : Nat, v = .int .i64 n ∧ (n ≤ most → n = f.sz) ∧ n < 2 ^ 56 ∧ R = []) := by
  have hpl := hfit.plen
  refine Ct.mk Tryz.func7 rfl rfl ?_
  refine Cd.seq ?_
  refine Cd.region ?_
  refine Ol.x bxg ?_
  rintro _ _ ⟨g2, rfl, rfl⟩
  refine Ol.p asi ?_
  refine Ol.nil ?_
  refine Cd.seq ?_
  refine Cd.draw mixed 8 (fun j => match j with | 6 => some (fun v R => ∃ n : Nat, v = .int .i64 n ∧ Counted n most (blocksSz f.blocks) ∧ R = []) | _ => none) (fun _ => []) (by kernel_rfl) (by intro j V h; split at h <;> cases h; obtain ⟨n, hn⟩ := counted_ex hm (blocksSz f.blocks); exact ⟨_, _, n, rfl, hn, rfl⟩) (fun u hu => ?_)
  refine Wk.p (fdl fd_api_Func_0) ?_
  refine Wk.p (ld one_L_int (Rd.blk (i := 0) rfl rfl)) ?_
  refine Wk.p (lens sl_L_int) ?_
  refine Wk.p (fdl fd_api_Func_1) ?_
  refine Wk.p (ld one_L_api_Block (Rd.blk (i := 0) rfl rfl)) ?_
  refine Wk.p mvi ?_
  refine Wk.x hu (sp_call en_kit_BlocksOf (fun M w' hh => kit_BlocksOf_ct (hf.now hh) hfit hm)) ?_
  rintro _ _ hu6 ⟨n, rfl, ⟨hn1, hn2⟩, rfl⟩
  refine Wk.p addi ?_
  refine Wk.nil ?_
  rw [needs_cons hu6, needs_none]
  refine Ol.p asi ?_
  refine Ol.nil ?_
  exact Cd.ret ⟨.int .i64 _, ret1 rfl rfl, [], .nil, f.params.length + n, rfl, fun h' => by rw [hn1 (by omega)]; rfl, by omega, rfl⟩
end
end Go.Proofs.YtkefmjhagmacfaaGreatDoor

/- Functions that are not great: plain laws. -/
namespace Go.Proofs.YtkefmjhagmacfaaGreatDoor
set_option linter.unusedVariables false
open Go Go.RowKit
theorem siz_arg : ∀ {l : List RIns} {i : RIns}, i ∈ l → i.args.length ≤ argSum l
  | [], _, h => by cases h
  | a :: l, i, h => by
    have e : argSum (a :: l) = a.args.length + argSum l := by simp [argSum]
    rcases List.mem_cons.1 h with rfl | h
    · omega
    · have := siz_arg h; omega
theorem siz_blk : ∀ {l : List RBlk} {b : RBlk}, b ∈ l → bsz b ≤ blocksSz l
  | [], _, h => by cases h
  | a :: l, b, h => by
    have e : blocksSz (a :: l) = bsz a + blocksSz l := by simp [blocksSz]
    rcases List.mem_cons.1 h with rfl | h
    · omega
    · have := siz_blk h; omega
theorem siz_len : ∀ l : List RBlk, l.length ≤ blocksSz l
  | [] => by simp
  | a :: l => by
    have e : blocksSz (a :: l) = bsz a + blocksSz l := by simp [blocksSz]
    have := siz_len l
    have h2 : 1 ≤ bsz a := by unfold bsz; omega
    simp only [List.length_cons]; omega
theorem siz_alen {f : RFun} {n : Nat} (h : f.sz ≤ n) : ∀ b ∈ f.blocks, ∀ i ∈ b.ins, i.args.length ≤ n := fun b hb i hi => by
  have h0 : f.params.length + blocksSz f.blocks ≤ n := h
  have := siz_blk hb
  have h3 := siz_arg hi
  unfold bsz at this; omega
theorem siz_ilen {f : RFun} {n : Nat} (h : f.sz ≤ n) : ∀ b ∈ f.blocks, b.ins.length ≤ n := fun b hb => by
  have h0 : f.params.length + blocksSz f.blocks ≤ n := h
  have := siz_blk hb
  unfold bsz at this; omega
theorem siz_blen {f : RFun} {n : Nat} (h : f.sz ≤ n) : f.blocks.length ≤ n ∧ f.params.length ≤ n := by
  have h0 : f.params.length + blocksSz f.blocks ≤ n := h
  have := siz_len f.blocks
  omega
theorem BlksIn.of_siz {w : World} {f : RFun} {n : Nat} (hf : FunAt w w.heap.size f) (h : f.sz ≤ n) (hn : n < 2 ^ 30) : BlksIn w w.heap.size f.bA f.blocks := by
  have h1 := siz_blen h
  refine ⟨hf.blocks, hf.ins, hf.args, by omega, fun b hb => ?_, fun b hb i hi => ?_⟩
  · have := siz_ilen h b hb
    omega
  · have := siz_alen h b hb i hi
    omega
theorem siz_terms {f g : RFun} (hb : g.bare = f.bare) : g.terms = f.terms := by
  have e : ∀ x : RFun, x.terms = x.bare.blocks.map RBlk.term := fun x => by
    show x.blocks.map RBlk.term = (x.blocks.map RBlk.bare).map RBlk.term
    rw [List.map_map]
    rfl
  rw [e, hb, ← e]
end Go.Proofs.YtkefmjhagmacfaaGreatDoor

/- The law 10: FlowTells, walked. -/
namespace Go.Proofs.YtkefmjhagmacfaaGreatDoor
set_option linter.unusedVariables false
set_option linter.unusedSimpArgs false
open Go Go.RowKit
set_option maxRecDepth 100000
section
theorem ed_ints {x y : Ed} : decide ([x.src, x.arm, x.to] = [y.src, y.arm, y.to]) = decide (x = y) := by
  refine decide_eq_decide.2 ⟨fun h => ?_, fun h => by rw [h]⟩
  injection h with h1 h
  injection h with h2 h
  injection h with h3 _
  cases x; cases y
  simp_all
theorem law10_same_ct {w : World} {A B : Option Addr} {c d : Nat} {a b : List Ed} (ha : Reads w w.heap.size 3 A a.length (edV a)) (hb : Reads w w.heap.size 3 B b.length (edV b)) (hal : a.length < 2 ^ 40) (hbl : b.length < 2 ^ 40) :
    Ct Tryz.prog 13 #[.slice A a.length c, .slice B b.length d] w (Is (.bool (decide (a = b)))) := by
  refine Ct.mk Tryz.func13 rfl rfl ?_
  refine Cd.seq ?_
  refine Cd.region ?_
  refine Ol.p asb ?_
  refine Ol.nil ?_
  refine Cd.seq ?_
  refine Cd.seq ?_
  refine Cd.region ?_
  refine Ol.p mvs ?_
  refine Ol.p (lens sl_L_api_Edge) ?_
  refine Ol.p mvs ?_
  refine Ol.p (lens sl_L_api_Edge) ?_
  refine Ol.p nei ?_
  refine Ol.nil ?_
  refine Cd.cond rfl (fun h => ?_) (fun h => ?_)
  · have h : (!decide ((a.length : Int) = (b.length : Int))) = true := h
    have hne : a ≠ b := fun e => by rw [e] at h; simp at h
    rw [decide_eq_false hne]
    refine Cd.seq ?_
    refine Cd.region ?_
    refine Ol.p asb ?_
    refine Ol.nil ?_
    exact Cd.ret ⟨.bool false, ret1 rfl rfl, [], .nil, rfl, rfl⟩
  have hl : a.length = b.length := by
    have h : (!decide ((a.length : Int) = (b.length : Int))) = false := h
    have : (a.length : Int) = (b.length : Int) := by simpa using h
    omega
  refine Cd.skip ?_
  refine Cd.seq ?_
  refine Cd.seq ?_
  refine Cd.region ?_
  refine Ol.p asi ?_
  refine Ol.nil ?_
  refine Cd.block ?_   -- 0
  refine Cd.loop (fun m σ L => ∃ k, m = a.length - k ∧ k ≤ a.length ∧ a.take k = b.take k ∧ Has σ [(0, .slice A a.length c), (1, .slice B b.length d), (5, .int .i64 k)] ∧ [] = L) (n := a.length) ⟨0, rfl, Nat.zero_le _, by simp, ⟨rfl, rfl, rfl, trivial⟩, rfl⟩ ?_
  rintro _ σ L ⟨k, rfl, hk, hkk, hs, rfl⟩
  refine Cd.has hs ?_
  clear hs
  refine Cd.seq ?_
  refine Cd.seq ?_
  refine Cd.region ?_
  refine Ol.p mvi ?_
  refine Ol.p mvs ?_
  refine Ol.p (lens sl_L_api_Edge) ?_
  refine Ol.p lsi ?_
  refine Ol.nil ?_
  refine Cd.cond rfl (fun h => ?_) (fun h => ?_)
  · have hlt := lt_of h
    obtain ⟨x, hx⟩ : ∃ x, a[k]? = some x := ⟨_, List.getElem?_eq_getElem hlt⟩
    obtain ⟨y, hy⟩ : ∃ y, b[k]? = some y := ⟨_, List.getElem?_eq_getElem (by omega)⟩
    refine Cd.skip ?_
    refine Cd.seq ?_
    refine Cd.block ?_
    refine Cd.seq ?_
    refine Cd.draw mixed 9 (fun _ => none) (fun _ => []) (by kernel_rfl) (fun _ _ h => by cases h) (fun u hu => ?_)
    refine Wk.p mvs ?_
    refine Wk.p mvi ?_
    refine Wk.p (ixn (ix := k) sl_L_api_Edge (Som.slc ha (by omega))) ?_
    refine Wk.p (lds (es := x.cells) ag_api_Edge ha x.len (fun j u hu => edV_at hx hu)) ?_
    refine Wk.p mvs ?_
    refine Wk.p mvi ?_
    refine Wk.p (ixn (ix := k) sl_L_api_Edge (Som.slc hb (by omega))) ?_
    refine Wk.p (lds (es := y.cells) ag_api_Edge hb y.len (fun j u hu => edV_at hy hu)) ?_
    refine Wk.p (nes (n := 3) (a := [x.src, x.arm, x.to]) (b := [y.src, y.arm, y.to]) st_api_Edge rfl rfl) ?_
    refine Wk.nil ?_
    refine Ol.nil ?_
    rw [ed_ints]
    refine Cd.cond rfl (fun h => ?_) (fun h => ?_)
    · have h : (!decide (x = y)) = true := h
      have hxy : x ≠ y := by simpa using h
      have hne : a ≠ b := fun e => by
        rw [e, hy] at hx
        exact hxy (Option.some.inj hx).symm
      rw [decide_eq_false hne]
      refine Cd.seq ?_
      refine Cd.region ?_
      refine Ol.p asb ?_
      refine Ol.nil ?_
      exact Cd.ret ⟨.bool false, ret1 rfl rfl, [], .nil, rfl, rfl⟩
    have h : (!decide (x = y)) = false := h
    have hxy : x = y := by simpa using h
    refine Cd.skip ?_
    refine Cd.region ?_
    refine Ol.p mvi ?_
    refine Ol.p addi ?_
    refine Ol.p asi ?_
    refine Ol.nil ?_
    exact ⟨a.length - (k + 1), by omega, k + 1, rfl, by omega, by rw [take_snoc_ hx, take_snoc_ hy, hkk, hxy], ⟨rfl, rfl, rfl, trivial⟩, rfl⟩
  have hke : k = a.length := by
    have := ge_of_ h
    omega
  have hab : a = b := by
    rw [hke, List.take_length, hl, List.take_length] at hkk
    exact hkk
  rw [decide_eq_true hab]
  refine Cd.exit (id := 0) ?_
  refine Cd.seq ?_
  refine Cd.region ?_
  refine Ol.p asb ?_
  refine Ol.nil ?_
  exact Cd.ret ⟨.bool true, ret1 rfl rfl, [], .nil, rfl, rfl⟩
theorem law10_same_self {w : World} {A B : Option Addr} {c d : Nat} {a : List Ed} (ha : Reads w w.heap.size 3 A a.length (edV a)) (hb : Reads w w.heap.size 3 B a.length (edV a)) (hal : a.length ≤ 400) :
    Ct Tryz.prog 13 #[.slice A a.length c, .slice B a.length d] w (Is (.bool true)) := by
  have := law10_same_ct (c := c) (d := d) ha hb (by omega) (by omega)
  rw [decide_eq_true rfl] at this
  exact this
end
theorem kit_SameInts_self {w : World} {A B : Option Addr} {c d : Nat} {a : List Int} (ha : Reads w w.heap.size 1 A a.length (ints a)) (hb : Reads w w.heap.size 1 B a.length (ints a)) (hal : a.length < 2 ^ 40) :
    Ct Tryz.prog 24 #[.slice A a.length c, .slice B a.length d] w (Is (.bool true)) := by
  have := kit_SameInts_ct (c := c) (d := d) ha hb (by omega) (by omega)
  rw [decide_eq_true rfl] at this
  exact this
section
/-- A list that is one's own, wherever it begins. -/
def PartO (l : List Int) : Value → List Res → Prop := fun v L => ∃ (A : Option Addr) (c : Nat) (R : Res), v = .slice A l.length c ∧ L = [R] ∧ (∀ k m, OwnP k 0 ⟨A, l.length, m, c⟩ R) ∧ ∀ w0 B, RdS w0 B [R] 1 A l.length (ints l)
theorem partO_in (l : List Int) : ∃ v L, PartO l v L :=
  ⟨_, _, some ⟨0, 0, none⟩, l.length, _, rfl, rfl, fun k m => .inr ⟨0, 0, (ints l).toArray, rfl, rfl, Nat.le_refl _, by simp [ints], fun j hj => by omega⟩, fun w0 B => RdS.blk (i := 0) rfl (by simp [ints]) (fun j u hu => by simpa using hu)⟩
theorem flow_Order_ct3 {w : World} {f : RFun} {ol : List Int} (ho : ints ol = intsN (orderF f.terms)) (hf : FunAt w w.heap.size f) (hfit : Fit f) : Ct Tryz.prog 22 #[f.val] w (PartO ol) := by
  have hl : (orderF f.terms).length = ol.length := by
    have := congrArg List.length ho
    simpa [ints, intsN] using this.symm
  refine CallsIn.mono (flow_Order_ct2 hf hfit) fun e w' ⟨v, he, L, hh, hR⟩ => ⟨v, he, ?_⟩
  rw [← ho, hl] at hR
  rcases hR with ⟨h0, h1, rfl, rfl⟩ | ⟨g, k, c, cs, rfl, rfl, h1, ⟨h2, h3⟩, h4⟩
  · have hn : ol = [] := List.eq_nil_of_length_eq_zero h0
    subst hn
    exact ⟨[row (.slice none 0 0) 3 1 0 []], Hp.nr (M := []) (L := []) hh, none, 0, _, rfl, rfl, fun k m => .inl ⟨rfl, rfl, rfl, rfl⟩, fun w0 B => RdS.nil⟩
  · exact ⟨_, hh, some ⟨g, k, none⟩, c, _, rfl, rfl, fun q m => .inr ⟨g, k, cs, rfl, rfl, h2, h3, fun j hj => by omega⟩, fun w0 B => RdS.blk (i := 0) rfl h1 h4⟩
end
section
theorem kit_Apart4 {w0 : World} {B cL : Nat} {AL : Option Addr} {x y z u : Li} {R1 R2 : Res} {Z U : List Value} (hx : ∀ k, OwnP k 0 x R1) (hy : ∀ k, OwnP k 0 y R2) (hz : Z.length = z.m ∧ z.n ≤ z.m) (hu : U.length = u.m ∧ u.n ≤ u.m) (hs : x.n < 2 ^ 39 ∧ y.n < 2 ^ 39 ∧ z.n < 2 ^ 39 ∧ u.n < 2 ^ 39) :
    Cm Tryz.prog 29 #[.slice AL 4 cL] w0 B [row (.slice AL 4 cL) 22 1 4 [.slice x.A x.n x.c, .slice y.A y.n y.c, .slice z.A z.n z.c, .slice u.A u.n u.c], R1, R2, rowL z Z, rowL u U] (Is (.bool true)) := fun M w hh => by
  obtain ⟨hd, hhd⟩ : ∃ hd, hd = row (.slice AL 4 cL) 22 1 4 [.slice x.A x.n x.c, .slice y.A y.n y.c, .slice z.A z.n z.c, .slice u.A u.n u.c] := ⟨_, rfl⟩
  rw [← hhd] at hh
  have h1 : Hp w0 B ((M ++ [hd, R1, R2]) ++ (rowL z Z :: [rowL u U])) w := by
    rw [List.append_assoc]
    exact hh
  obtain ⟨R3, h3, h2⟩ := Hp.ownP (k := 2) h1 hz.1 hz.2
  have h4 : Hp w0 B ((M ++ [hd, R1, R2, R3]) ++ (rowL u U :: [])) w := by
    rw [List.append_assoc] at h2 ⊢
    exact h2
  obtain ⟨R4, h5, h6⟩ := Hp.ownP (k := 3) h4 hu.1 hu.2
  have h7 : Hp w0 B (M ++ (hd :: [R1, R2, R3, R4])) w := by
    rw [List.append_assoc] at h6
    exact h6
  have key : ∀ k, k < 4 → k = 0 ∨ k = 1 ∨ k = 2 ∨ k = 3 := fun k hk => by omega
  rw [hhd] at h7
  refine kit_ApartRes_cm (N := 4) (it := fun k => if k = 0 then x else if k = 1 then y else if k = 2 then z else u) (R0 := fun k => if k = 0 then R1 else if k = 1 then R2 else if k = 2 then R3 else R4) (by omega) ?_ ?_ M w h7
  · intro k hk
    rcases key k hk with rfl | rfl | rfl | rfl
    · exact hx 0
    · exact hy 1
    · exact h3
    · exact h5
  · intro k hk
    rcases key k hk with rfl | rfl | rfl | rfl
    · exact hs.1
    · exact hs.2.1
    · exact hs.2.2.1
    · exact hs.2.2.2
set_option maxHeartbeats 8000000 in
theorem law10_FlowTells_ct {w : World} {f : RFun} {b : Int} {A1 A2 : Option Addr} {c1 c2 : Nat} {fr nt : List Int} (hT : Tabs w w.heap.size) (hf : FunAt w w.heap.size f) (hfit : Fit f) (hfr : Reads w w.heap.size 1 A1 fr.length (ints fr)) (hnt : Reads w w.heap.size 1 A2 nt.length (ints nt)) (hi1 : ∀ n ∈ fr, I64 n) (hi2 : ∀ n ∈ nt, I64 n) (hl1 : fr.length < 2 ^ 60) (hl2 : nt.length < 2 ^ 60) :
    Ct Tryz.prog 3 #[f.val, .int .i64 b, .slice A1 fr.length c1, .slice A2 nt.length c2] w (Is (.bool true)) := by
  refine Ct.mk Tryz.func3 rfl rfl ?_
  refine Cd.seq ?_
  refine Cd.region ?_
  refine Ol.x bxg ?_
  rintro _ _ ⟨g4, rfl, rfl⟩
  refine Ol.p asb ?_
  refine Ol.nil ?_
  refine Cd.seq ?_
  refine Cd.seq ?_
  refine Cd.region ?_
  refine Ol.p (ldw (cs := f.cells.toArray) ag_api_Func (i := 0) rfl rfl) ?_
  refine Ol.x (sp_call (vs := [f.val, .int .i64 500]) en_kit_FuncOf (fun M w' hh => kit_FuncOf_ct (hf.now hh) hfit (most := 500) (by decide))) ?_
  rintro _ _ ⟨_, rfl, N, rfl, hN1, hN2, rfl⟩
  refine Ol.p mvs ?_
  refine Ol.p (lens sl_L_int) ?_
  refine Ol.p addi ?_
  refine Ol.p mvs ?_
  refine Ol.p (lens sl_L_int) ?_
  refine Ol.p addi ?_
  refine Ol.p gti ?_
  refine Ol.nil ?_
  refine Cd.cond rfl (fun h => ?_) (fun h => ?_)
  · refine Cd.seq ?_
    refine Cd.region ?_
    refine Ol.s (cl en_law10_awake (fun M w' hh => law10_awake_ct)) ?_
    refine Ol.p asb ?_
    refine Ol.nil ?_
    exact Cd.ret ⟨.bool true, ret1 rfl rfl, [], Keep.nil, rfl, rfl⟩
  obtain ⟨hsz, hfl, hnl⟩ : f.sz ≤ 500 ∧ fr.length ≤ 500 ∧ nt.length ≤ 500 := by
    have h : decide ((500 : Int) < (N : Int) + fr.length + nt.length) = false := h
    have := of_decide_eq_false h
    have h2 := hN1 (by omega)
    omega
  clear h hN1 hN2
  have hbi : BlksIn w w.heap.size f.bA f.blocks := BlksIn.of_siz hf hsz (by omega)
  obtain ⟨hbl, hpl⟩ := siz_blen hsz
  have h40 : ∀ b ∈ f.blocks, ∀ i ∈ b.ins, i.args.length < 2 ^ 40 := fun b hb i hi => by
    have := siz_alen hsz b hb i hi
    omega
  refine Cd.skip ?_
  refine Cd.seq ?_
  refine Cd.region ?_
  refine Ol.p (ldw (cs := f.cells.toArray) ag_api_Func (i := 0) rfl rfl) ?_
  refine Ol.x (sp_call (vs := [f.val]) en_kit_LentFunc (fun M w' hh => kit_LentFunc_ct (hf.now hh) (by omega) (hbi.now hh) h40)) ?_
  rintro _ _ ⟨X, rfl, g, hb, rfl, hX⟩
  have hfc : FitC g := FitC.same hfit.c hb
  refine Ol.keep (L' := blk g4 (.cells f.cells.toArray 25) :: funLent g) ⟨[], by rw [List.append_nil]; exact List.perm_append_comm.trans (hX.cons _)⟩ ?_
  refine Ol.p mvs ?_
  refine Ol.x (sp_call (vs := [.slice A1 fr.length c1]) en_kit_LentInts (fun M w' hh => kit_LentInts_ct (hfr.now hh) (by omega))) ?_
  rintro _ _ ⟨_, rfl, A29, c29, rfl, rfl⟩
  refine Ol.p mvs ?_
  refine Ol.x (sp_call (vs := [.slice A2 nt.length c2]) en_kit_LentInts (fun M w' hh => kit_LentInts_ct (hnt.now hh) (by omega))) ?_
  rintro _ _ ⟨_, rfl, A31, c31, rfl, rfl⟩
  refine Ol.x (alc zr_api_Func) ?_
  rintro _ _ ⟨g9, rfl, rfl⟩
  refine Ol.s (stw (vs := g.cells.toArray) sz_api_Func rfl (by intro u hu; simp [RFun.cells] at hu; rcases hu with rfl | rfl <;> rfl) (i := 0) rfl rfl) ?_
  refine Ol.p ass ?_
  refine Ol.p ass ?_
  refine Ol.nil ?_
  obtain ⟨LQ, hLQ⟩ : ∃ LQ, LQ = lInt A31 c31 nt :: lInt A29 c29 fr :: funLent g := ⟨_, rfl⟩
  obtain ⟨LB, hLB⟩ : ∃ LB, LB = blk g9 (.cells g.cells.toArray 25) :: blk g4 (.cells f.cells.toArray 25) :: LQ := ⟨_, rfl⟩
  refine Cd.keep (L' := LB) (keep_count [] fun _ x => by
    rw [hLB, hLQ]
    simp only [List.set_cons_succ, List.set_cons_zero, List.count_append, List.count_cons, List.count_nil, List.cons_append, List.nil_append, List.append_nil]
    omega) ?_
  have h9 : LB[0]? = some (blk g9 (.cells g.cells.toArray 25)) := by rw [hLB]; rfl
  have h4 : LB[1]? = some (blk g4 (.cells f.cells.toArray 25)) := by rw [hLB]; rfl
  have hQ : ∀ {M L : List Res} {w' : World}, (∀ r ∈ LB, r ∈ L) → Hp w w.heap.size (M ++ L) w' → LentAt w' w'.heap.size g ∧ (Reads w' w'.heap.size 1 A29 (fr.length + 12) (ints (fr ++ mkL 12)) ∧ fr.length + 12 ≤ c29) ∧ Reads w' w'.heap.size 1 A31 (nt.length + 12) (ints (nt ++ mkL 12)) ∧ nt.length + 12 ≤ c31 := fun {M L w'} hs hh => by
    have hs' : ∀ r ∈ LQ, r ∈ L := fun r hr => hs r (by rw [hLB]; exact List.mem_cons_of_mem _ (List.mem_cons_of_mem _ hr))
    have key : ∀ {A : Option Addr} {c : Nat} {l : List Int}, lInt A c l ∈ LQ → Reads w' w'.heap.size 1 A (l.length + 12) (ints (l ++ mkL 12)) ∧ l.length + 12 ≤ c := fun hm => by
      obtain ⟨i, hi⟩ := List.mem_iff_getElem?.1 (hs' _ hm)
      exact ⟨Reads.row hh (i := i) hi, cap_row (hh.at_ hi)⟩
    exact ⟨LentAt.own hh (fun r hr => hs' r (by rw [hLQ]; exact List.mem_cons_of_mem _ (List.mem_cons_of_mem _ hr))), key (A := A29) (c := c29) (l := fr) (by rw [hLQ]; simp), key (A := A31) (c := c31) (l := nt) (by rw [hLQ]; simp)⟩
  have hg : ∀ {M : List Res} {w' : World}, Hp w w.heap.size (M ++ LB) w' → FunAt w' w'.heap.size g ∧ Fit g := fun hh => ⟨(hQ (fun r h => h) hh).1.fun_, (hQ (fun r h => h) hh).1.fit hfc⟩
  have hts := siz_terms hb
  -- what each call tells
  obtain ⟨cB, hcB⟩ : ∃ cB, cB = closed f.terms := ⟨_, rfl⟩
  obtain ⟨E1, hE1⟩ : ∃ E, E = someE f.terms fun _ => true := ⟨_, rfl⟩
  obtain ⟨E2, hE2⟩ : ∃ E, E = someE f.terms fun e => decide (e.to = b) := ⟨_, rfl⟩
  obtain ⟨E3, hE3⟩ : ∃ E, E = someE f.terms fun e => decide (e.src = b) := ⟨_, rfl⟩
  obtain ⟨E4, hE4⟩ : ∃ E, E = someE f.terms (critE f.terms) := ⟨_, rfl⟩
  have l1 : E1.length ≤ 400 := by rw [hE1]; exact someE_len_le _ _
  have l2 : E2.length ≤ 400 := by rw [hE2]; exact someE_len_le _ _
  have l3 : E3.length ≤ 400 := by rw [hE3]; exact someE_len_le _ _
  have l4 : E4.length ≤ 400 := by rw [hE4]; exact someE_len_le _ _
  obtain ⟨ol, hol, holn⟩ : ∃ ol : List Int, ints ol = intsN (orderF f.terms) ∧ ol.length = (orderF f.terms).length := ⟨(orderF f.terms).map fun (n : Nat) => (n : Int), by simp [ints, intsN], by simp⟩
  obtain ⟨rl, hrl, hrln⟩ : ∃ rl : List Int, ints rl = intsN (reachedF f.terms fr nt) ∧ rl.length = (reachedF f.terms fr nt).length := ⟨(reachedF f.terms fr nt).map fun (n : Nat) => (n : Int), by simp [ints, intsN], by simp⟩
  have hol40 : ol.length < 2 ^ 30 := by
    rw [holn]
    cases hc : closed f.terms with
    | true => have := order_len_le hc; have := (closed_le hc).2; omega
    | false => rw [show orderF f.terms = [] by unfold orderF; rw [hc]; rfl]; decide
  have hrl40 : rl.length < 2 ^ 30 := by
    rw [hrln]
    unfold reachedF
    cases closed f.terms
    · show ([] : List Nat).length < 2 ^ 30
      decide
    · rw [cond_true]
      have := upto_len_le (reachS f.terms (lessL (allS f.terms.length) nt) (lessL (allS f.terms.length) nt &&& ofL fr)) 1024
      unfold listS
      omega
  have k0 : ∀ w', FunAt w' w'.heap.size g → Fit g → Ct Tryz.prog 11 #[g.val] w' (Is (.bool cB)) := fun w' a1 a2 => by rw [hcB, ← hts]; exact flow_Closed_ct a1 a2
  have k1 : ∀ w', FunAt w' w'.heap.size g → Fit g → Ct Tryz.prog 14 #[g.val] w' (NewL 58 3 E1.length (edV E1)) := fun w' a1 a2 => by rw [hE1, ← hts]; exact flow_Edges_ct a1 a2
  have k2 : ∀ w', FunAt w' w'.heap.size g → Fit g → Ct Tryz.prog 16 #[g.val, .int .i64 b] w' (NewL 58 3 E2.length (edV E2)) := fun w' a1 a2 => by rw [hE2, ← hts]; exact flow_Into_ct a1 a2
  have k3 : ∀ w', FunAt w' w'.heap.size g → Fit g → Ct Tryz.prog 18 #[g.val, .int .i64 b] w' (NewL 58 3 E3.length (edV E3)) := fun w' a1 a2 => by rw [hE3, ← hts]; exact flow_From_ct a1 a2
  have k4 : ∀ w', FunAt w' w'.heap.size g → Fit g → Ct Tryz.prog 20 #[g.val] w' (NewL 58 3 E4.length (edV E4)) := fun w' a1 a2 => by rw [hE4, ← hts]; exact flow_Critical_ct a1 a2
  have k5 : ∀ w', FunAt w' w'.heap.size g → Fit g → Ct Tryz.prog 22 #[g.val] w' (PartO ol) := fun w' a1 a2 => flow_Order_ct3 (by rw [hts]; exact hol) a1 a2
  have k6 : ∀ w', Tabs w' w'.heap.size → FunAt w' w'.heap.size g → Fit g → Reads w' w'.heap.size 1 A29 fr.length (ints fr) → Reads w' w'.heap.size 1 A31 nt.length (ints nt) → Ct Tryz.prog 23 #[g.val, .slice A29 fr.length c29, .slice A31 nt.length c31] w' (NewL 3 1 rl.length (ints rl)) := fun w' a0 a1 a2 a3 a4 => by
    have := flow_Reached_ct (c1 := c29) (c2 := c31) a0 a1 a2 a3 a4 hi1 hi2 hl1 hl2
    rw [hts, ← hrl, ← hrln] at this
    exact this
  have r1 : ∀ w', FunAt w' w'.heap.size f → Ct Tryz.prog 15 #[f.val] w' (NewL 58 3 E1.length (edV E1)) := fun w' a1 => by rw [hE1]; exact ref10_Edges_ct a1 hfit
  have r2 : ∀ w', FunAt w' w'.heap.size f → Ct Tryz.prog 17 #[f.val, .int .i64 b] w' (NewL 58 3 E2.length (edV E2)) := fun w' a1 => by rw [hE2]; exact ref10_Into_ct a1 hfit
  have r3 : ∀ w', FunAt w' w'.heap.size f → Ct Tryz.prog 19 #[f.val, .int .i64 b] w' (NewL 58 3 E3.length (edV E3)) := fun w' a1 => by rw [hE3]; exact ref10_From_ct a1 hfit
  have r4 : ∀ w', FunAt w' w'.heap.size f → Ct Tryz.prog 21 #[f.val] w' (NewL 58 3 E4.length (edV E4)) := fun w' a1 => by rw [hE4]; exact ref10_Critical_ct a1 hfit
  have r5 : ∀ w', FunAt w' w'.heap.size f → Ct Tryz.prog 25 #[f.val] w' (NewL 3 1 ol.length (ints ol)) := fun w' a1 => by
    have := ref10_Order_ct a1 hfit
    rw [← hol, ← holn] at this
    exact this
  have r6 : ∀ w', FunAt w' w'.heap.size f → Reads w' w'.heap.size 1 A1 fr.length (ints fr) → Reads w' w'.heap.size 1 A2 nt.length (ints nt) → Ct Tryz.prog 26 #[f.val, .slice A1 fr.length c1, .slice A2 nt.length c2] w' (NewL 3 1 rl.length (ints rl)) := fun w' a1 a2 a3 => by
    have := ref10_Reached_ct (c1 := c1) (c2 := c2) a1 hfit a2 a3 hl1 hl2
    rw [← hrl, ← hrln] at this
    exact this
  have q5 : decide (cB = cB) = true := by simp
  clear hE1 hE2 hE3 hE4
  refine Cd.mid (fun σ' L' => Has σ' [(2, .slice A1 fr.length c1), (3, .slice A2 nt.length c2), (4, .pointer (some ⟨g4, 0, none⟩)), (9, .pointer (some ⟨g9, 0, none⟩)), (10, .slice A29 fr.length c29), (11, .slice A31 nt.length c31), (12, .bool true)] ∧ Keep L' LB) ?_ ?_
  · skip
    refine Cd.draw mixed 38 (fun opNo => match opNo with | 1 => some (Is (.bool cB)) | 3 => some (Is (.bool cB)) | 7 => some (NewL 58 3 E1.length (edV E1)) | 9 => some (NewL 58 3 E1.length (edV E1)) | 10 => some (Is (.bool true)) | 15 => some (NewL 58 3 E2.length (edV E2)) | 18 => some (NewL 58 3 E2.length (edV E2)) | 19 => some (Is (.bool true)) | 24 => some (NewL 58 3 E3.length (edV E3)) | 27 => some (NewL 58 3 E3.length (edV E3)) | 28 => some (Is (.bool true)) | 32 => some (NewL 58 3 E4.length (edV E4)) | 34 => some (NewL 58 3 E4.length (edV E4)) | 35 => some (Is (.bool true)) | _ => none) (fun opNo => match opNo with | 10 => [7, 9] | 19 => [15, 18] | 28 => [24, 27] | 35 => [32, 34] | _ => []) (by kernel_rfl) (by intro q V h; split at h <;> cases h; exact ⟨_, [], rfl, rfl⟩; exact ⟨_, [], rfl, rfl⟩; exact ⟨_, _, none, 0, rfl, rfl⟩; exact ⟨_, _, none, 0, rfl, rfl⟩; exact ⟨_, [], rfl, rfl⟩; exact ⟨_, _, none, 0, rfl, rfl⟩; exact ⟨_, _, none, 0, rfl, rfl⟩; exact ⟨_, [], rfl, rfl⟩; exact ⟨_, _, none, 0, rfl, rfl⟩; exact ⟨_, _, none, 0, rfl, rfl⟩; exact ⟨_, [], rfl, rfl⟩; exact ⟨_, _, none, 0, rfl, rfl⟩; exact ⟨_, _, none, 0, rfl, rfl⟩; exact ⟨_, [], rfl, rfl⟩) (fun u hu => ?_)
    refine Wk.p (ldw (cs := g.cells.toArray) ag_api_Func (i := 0) h9 rfl) ?_
    refine Wk.x (V := Is (.bool cB)) hu (sp_call (vs := [g.val]) en_flow_Closed (fun M w' hh => k0 w' (hg hh).1 (hg hh).2)) ?_
    rintro _ _ hu1 ⟨rfl, rfl⟩
    refine Wk.p (ldw (cs := f.cells.toArray) ag_api_Func (i := 1) h4 rfl) ?_
    refine Wk.x (V := Is (.bool cB)) hu (sp_call (vs := [f.val]) en_ref10_Closed (fun M w' hh => by rw [hcB]; exact ref10_Closed_ct (hf.now hh) hfit)) ?_
    rintro _ _ hu3 ⟨rfl, rfl⟩
    refine Wk.p (eqb bo_bool) ?_
    refine Wk.p mvb ?_
    refine Wk.gp q5 (ldw (cs := g.cells.toArray) ag_api_Func (i := 0) h9 rfl) ?_
    refine Wk.gx (V := NewL 58 3 E1.length (edV E1)) hu q5 (sp_call (vs := [g.val]) en_flow_Edges (fun M w' hh => k1 w' (hg hh).1 (hg hh).2)) ?_
    rintro _ _ hu7 ⟨A39, c39, rfl, rfl⟩
    refine Wk.gp q5 (ldw (cs := f.cells.toArray) ag_api_Func (i := 1) h4 rfl) ?_
    refine Wk.gx (V := NewL 58 3 E1.length (edV E1)) hu q5 (sp_call (vs := [f.val]) en_ref10_Edges (fun M w' hh => r1 w' (hf.now hh))) ?_
    rintro _ _ hu9 ⟨A41, c41, rfl, rfl⟩
    refine Wk.gxn (V := Is (.bool true)) hu q5 (l := [7, 9]) rfl (by simp) (by rw [needs_cons hu7, needs_cons hu9, needs_none]; exact (sp_call en_law10_same (fun M w' hh => law10_same_self (Reads.row hh (i := 0) rfl) (Reads.row hh (i := 1) rfl) l1))) ?_
    rintro _ _ hu10 ⟨rfl, rfl⟩
    refine Wk.p (pkTb q5) ?_
    refine Wk.p mvb ?_
    refine Wk.gp rfl (ldw (cs := g.cells.toArray) ag_api_Func (i := 0) h9 rfl) ?_
    refine Wk.gp rfl mvi ?_
    refine Wk.gx (V := NewL 58 3 E2.length (edV E2)) hu rfl (sp_call (vs := [g.val, .int .i64 b]) en_flow_Into (fun M w' hh => k2 w' (hg hh).1 (hg hh).2)) ?_
    rintro _ _ hu15 ⟨A47, c47, rfl, rfl⟩
    refine Wk.gp rfl (ldw (cs := f.cells.toArray) ag_api_Func (i := 1) h4 rfl) ?_
    refine Wk.gp rfl mvi ?_
    refine Wk.gx (V := NewL 58 3 E2.length (edV E2)) hu rfl (sp_call (vs := [f.val, .int .i64 b]) en_ref10_Into (fun M w' hh => r2 w' (hf.now hh))) ?_
    rintro _ _ hu18 ⟨A50, c50, rfl, rfl⟩
    refine Wk.gxn (V := Is (.bool true)) hu rfl (l := [15, 18]) rfl (by simp) (by rw [needs_cons hu15, needs_cons hu18, needs_none]; exact (sp_call en_law10_same (fun M w' hh => law10_same_self (Reads.row hh (i := 0) rfl) (Reads.row hh (i := 1) rfl) l2))) ?_
    rintro _ _ hu19 ⟨rfl, rfl⟩
    refine Wk.p (pkTb rfl) ?_
    refine Wk.p mvb ?_
    refine Wk.gp rfl (ldw (cs := g.cells.toArray) ag_api_Func (i := 0) h9 rfl) ?_
    refine Wk.gp rfl mvi ?_
    refine Wk.gx (V := NewL 58 3 E3.length (edV E3)) hu rfl (sp_call (vs := [g.val, .int .i64 b]) en_flow_From (fun M w' hh => k3 w' (hg hh).1 (hg hh).2)) ?_
    rintro _ _ hu24 ⟨A56, c56, rfl, rfl⟩
    refine Wk.gp rfl (ldw (cs := f.cells.toArray) ag_api_Func (i := 1) h4 rfl) ?_
    refine Wk.gp rfl mvi ?_
    refine Wk.gx (V := NewL 58 3 E3.length (edV E3)) hu rfl (sp_call (vs := [f.val, .int .i64 b]) en_ref10_From (fun M w' hh => r3 w' (hf.now hh))) ?_
    rintro _ _ hu27 ⟨A59, c59, rfl, rfl⟩
    refine Wk.gxn (V := Is (.bool true)) hu rfl (l := [24, 27]) rfl (by simp) (by rw [needs_cons hu24, needs_cons hu27, needs_none]; exact (sp_call en_law10_same (fun M w' hh => law10_same_self (Reads.row hh (i := 0) rfl) (Reads.row hh (i := 1) rfl) l3))) ?_
    rintro _ _ hu28 ⟨rfl, rfl⟩
    refine Wk.p (pkTb rfl) ?_
    refine Wk.p mvb ?_
    refine Wk.gp rfl (ldw (cs := g.cells.toArray) ag_api_Func (i := 0) h9 rfl) ?_
    refine Wk.gx (V := NewL 58 3 E4.length (edV E4)) hu rfl (sp_call (vs := [g.val]) en_flow_Critical (fun M w' hh => k4 w' (hg hh).1 (hg hh).2)) ?_
    rintro _ _ hu32 ⟨A64, c64, rfl, rfl⟩
    refine Wk.gp rfl (ldw (cs := f.cells.toArray) ag_api_Func (i := 1) h4 rfl) ?_
    refine Wk.gx (V := NewL 58 3 E4.length (edV E4)) hu rfl (sp_call (vs := [f.val]) en_ref10_Critical (fun M w' hh => r4 w' (hf.now hh))) ?_
    rintro _ _ hu34 ⟨A66, c66, rfl, rfl⟩
    refine Wk.gxn (V := Is (.bool true)) hu rfl (l := [32, 34]) rfl (by simp) (by rw [needs_cons hu32, needs_cons hu34, needs_none]; exact (sp_call en_law10_same (fun M w' hh => law10_same_self (Reads.row hh (i := 0) rfl) (Reads.row hh (i := 1) rfl) l4))) ?_
    rintro _ _ hu35 ⟨rfl, rfl⟩
    refine Wk.p (pkTb rfl) ?_
    refine Wk.p asb ?_
    refine Wk.nil ?_
    rw [needs_cons hu35, needs_cons hu34, needs_cons hu32, needs_cons hu28, needs_cons hu27, needs_cons hu24, needs_cons hu19, needs_cons hu18, needs_cons hu15, needs_cons hu10, needs_cons hu9, needs_cons hu7, needs_cons hu3, needs_cons hu1, needs_none]
    refine Ol.nil ?_
    exact ⟨⟨rfl, rfl, rfl, rfl, rfl, rfl, rfl, trivial⟩, .sub (.cons _ (.cons _ (.cons _ (.cons _ (.cons _ (.cons _ (.cons _ (.cons _ (List.Sublist.refl _)))))))))⟩
  rintro σ' L' ⟨hs', hkp⟩
  refine Cd.keep hkp ?_
  refine Cd.has hs' ?_
  clear hs' hkp k0 k1 k2 k3 k4 r1 r2 r3 r4
  refine Cd.seq ?_
  refine Cd.draw mixed 4 (fun opNo => match opNo with | 1 => some (PartO ol) | 3 => some (PartO ol) | _ => none) (fun _ => []) (by kernel_rfl) (by intro q V h; split at h <;> cases h; exact partO_in ol; exact partO_in ol) (fun u hu => ?_)
  refine Wk.p (ldw (cs := g.cells.toArray) ag_api_Func (i := 0) h9 rfl) ?_
  refine Wk.x (V := PartO ol) hu (sp_call (vs := [g.val]) en_flow_Order (fun M w' hh => k5 w' (hg hh).1 (hg hh).2)) ?_
  rintro _ _ hu1 ⟨A70, c70, R70, rfl, rfl, ho1, hp1⟩
  refine Wk.p (ldw (cs := g.cells.toArray) ag_api_Func (i := 0) h9 rfl) ?_
  refine Wk.x (V := PartO ol) hu (sp_call (vs := [g.val]) en_flow_Order (fun M w' hh => k5 w' (hg hh).1 (hg hh).2)) ?_
  rintro _ _ hu3 ⟨A72, c72, R72, rfl, rfl, ho2, hp2⟩
  refine Wk.nil ?_
  rw [needs_cons hu3, needs_cons hu1, needs_none]
  refine Ol.p ass ?_
  refine Ol.p ass ?_
  refine Ol.nil ?_
  show Cd _ _ _ _ (R72 :: R70 :: LB)
  have hin2 : ∀ r ∈ LB, r ∈ R72 :: R70 :: LB := fun r h => List.mem_cons_of_mem _ (List.mem_cons_of_mem _ h)
  refine Cd.seq ?_
  refine Cd.region ?_
  refine Ol.p (ldw (cs := g.cells.toArray) ag_api_Func (i := 2) h9 rfl) ?_
  refine Ol.p mvs ?_
  refine Ol.p mvs ?_
  refine Ol.x (sp_call (vs := [g.val, .slice A29 fr.length c29, .slice A31 nt.length c31]) (R := NewL 3 1 rl.length (ints rl)) en_flow_Reached (fun M w' hh => k6 w' (hT.now hh) (hQ hin2 hh).1.fun_ ((hQ hin2 hh).1.fit hfc) (hQ hin2 hh).2.1.1.lentI (hQ hin2 hh).2.2.1.lentI)) ?_
  rintro _ _ ⟨_, rfl, A76, c76, rfl, rfl⟩
  refine Ol.p ass ?_
  refine Ol.nil ?_
  show Cd _ _ _ _ (row (.slice A76 rl.length c76) 3 1 rl.length (ints rl) :: R72 :: R70 :: LB)
  refine Cd.seq ?_
  refine Cd.region ?_
  refine Ol.p mvb ?_
  refine Ol.p mvb ?_
  refine Ol.gp rfl mvs ?_
  refine Ol.gp rfl (ldw (cs := f.cells.toArray) ag_api_Func (i := 4) h4 rfl) ?_
  refine Ol.gx rfl (sp_call (vs := [f.val]) (R := NewL 3 1 ol.length (ints ol)) en_ref10_Order (fun M w' hh => r5 w' (hf.now hh))) ?_
  rintro _ _ ⟨_, rfl, A81, c81, rfl, rfl⟩
  refine Ol.gs rfl (cl (v := .bool true) (vs := [.slice A70 ol.length c70, .slice A81 ol.length c81]) en_kit_SameInts (fun M w' hh => kit_SameInts_self ((hp1 w w.heap.size).keep (.sub (.cons _ (.cons _ (.cons _ (.cons_cons _ (List.nil_sublist _)))))) M w' hh) (Reads.row hh (i := 0) rfl) (by omega))) ?_
  refine Ol.p (pkTb rfl) ?_
  refine Ol.p mvb ?_
  refine Ol.gp rfl mvs ?_
  refine Ol.gp rfl (ldw (cs := f.cells.toArray) ag_api_Func (i := 5) h4 rfl) ?_
  refine Ol.gp rfl mvs ?_
  refine Ol.gp rfl mvs ?_
  refine Ol.gx rfl (sp_call (vs := [f.val, .slice A1 fr.length c1, .slice A2 nt.length c2]) (R := NewL 3 1 rl.length (ints rl)) en_ref10_Reached (fun M w' hh => r6 w' (hf.now hh) (hfr.now hh) (hnt.now hh))) ?_
  rintro _ _ ⟨_, rfl, A89, c89, rfl, rfl⟩
  refine Ol.gs rfl (cl (v := .bool true) (vs := [.slice A76 rl.length c76, .slice A89 rl.length c89]) en_kit_SameInts (fun M w' hh => kit_SameInts_self (Reads.row hh (i := 2) rfl) (Reads.row hh (i := 0) rfl) (by omega))) ?_
  refine Ol.p (pkTb rfl) ?_
  refine Ol.p asb ?_
  refine Ol.nil ?_
  refine Cd.keep (L' := row (.slice A76 rl.length c76) 3 1 rl.length (ints rl) :: R72 :: R70 :: LB) (.sub (.cons _ (.cons _ (List.Sublist.refl _)))) ?_
  have hin3 : ∀ r ∈ LB, r ∈ row (.slice A76 rl.length c76) 3 1 rl.length (ints rl) :: R72 :: R70 :: LB := fun r h => List.mem_cons_of_mem _ (hin2 r h)
  refine Cd.seq ?_
  refine Cd.region ?_
  refine Ol.p mvb ?_
  refine Ol.p mvb ?_
  refine Ol.gp rfl (ldw (cs := g.cells.toArray) ag_api_Func (i := 3) h9 rfl) ?_
  refine Ol.gp rfl (ldw (cs := f.cells.toArray) ag_api_Func (i := 4) h4 rfl) ?_
  refine Ol.gs rfl (cl (v := .bool true) (vs := [g.val, f.val]) en_kit_KeptFunc (fun M w' hh => kit_KeptFunc_ct hb (hQ hin3 hh).1 (hf.now hh) hfc hfit.c (by omega) (hbi.now hh) h40)) ?_
  refine Ol.p (pkTb rfl) ?_
  refine Ol.p mvb ?_
  refine Ol.gp rfl mvs ?_
  refine Ol.gp rfl mvs ?_
  refine Ol.gs rfl (cl (v := .bool true) (vs := [.slice A29 fr.length c29, .slice A1 fr.length c1]) en_kit_KeptInts (fun M w' hh => kit_KeptInts_ct (hQ hin3 hh).2.1.1 (hQ hin3 hh).2.1.2 (hfr.now hh) (by omega))) ?_
  refine Ol.p (pkTb rfl) ?_
  refine Ol.p mvb ?_
  refine Ol.gp rfl mvs ?_
  refine Ol.gp rfl mvs ?_
  refine Ol.gs rfl (cl (v := .bool true) (vs := [.slice A31 nt.length c31, .slice A2 nt.length c2]) en_kit_KeptInts (fun M w' hh => kit_KeptInts_ct (hQ hin3 hh).2.2.1 (hQ hin3 hh).2.2.2 (hnt.now hh) (by omega))) ?_
  refine Ol.p (pkTb rfl) ?_
  refine Ol.p mvb ?_
  refine Ol.gp rfl mvs ?_
  refine Ol.gp rfl mvs ?_
  refine Ol.gp rfl mvs ?_
  refine Ol.gp rfl mvs ?_
  refine Ol.gx rfl (bsv [.slice A70 ol.length c70, .slice A72 ol.length c72, .slice A76 rl.length c76, .slice A29 fr.length c29] sl_L_L_int zr_L_int (by simp [Value.cells])) ?_
  rintro _ _ ⟨g113, rfl, rfl⟩
  refine Ol.gx rfl (sp_callm (vs := [.slice (some ⟨g113, 0, none⟩) 4 4]) (Lin := [row (.slice (some ⟨g113, 0, none⟩) 4 4) 22 1 4 [.slice A70 ol.length c70, .slice A72 ol.length c72, .slice A76 rl.length c76, .slice A29 fr.length c29], R70, R72, rowL ⟨A76, rl.length, rl.length, c76⟩ (ints rl), rowL ⟨A29, fr.length, fr.length + 12, c29⟩ (ints (fr ++ mkL 12))]) (L2 := blk g9 (.cells g.cells.toArray 25) :: blk g4 (.cells f.cells.toArray 25) :: lInt A31 c31 nt :: funLent g) en_kit_ApartInts (perm_count fun _ x => by rw [hLB, hLQ]; simp only [rowL, lInt, List.count_append, List.count_cons, List.count_nil, List.cons_append, List.nil_append]; omega) (kit_Apart4 (x := ⟨A70, ol.length, ol.length, c70⟩) (y := ⟨A72, ol.length, ol.length, c72⟩) (z := ⟨A76, rl.length, rl.length, c76⟩) (u := ⟨A29, fr.length, fr.length + 12, c29⟩) (Z := ints rl) (U := ints (fr ++ mkL 12)) (fun k => ho1 k _) (fun k => ho2 k _) ⟨by simp [ints], Nat.le_refl _⟩ ⟨by simp [ints, mkL_len], by show fr.length ≤ fr.length + 12; omega⟩ ⟨by show ol.length < 2 ^ 39; omega, by show ol.length < 2 ^ 39; omega, by show rl.length < 2 ^ 39; omega, by show fr.length < 2 ^ 39; omega⟩)) ?_
  rintro _ _ ⟨_, rfl, rfl, rfl⟩
  refine Ol.p (pkTb rfl) ?_
  refine Ol.p mvb ?_
  refine Ol.gs rfl (cl (v := .bool true) en_law10_awake (fun M w' hh => law10_awake_ct)) ?_
  refine Ol.p (pkTb rfl) ?_
  refine Ol.p asb ?_
  refine Ol.nil ?_
  exact Cd.ret ⟨.bool true, ret1 rfl rfl, [], Keep.nil, rfl, rfl⟩
end
end Go.Proofs.YtkefmjhagmacfaaGreatDoor

/- Lists of structs that came in, opened. -/
namespace Go.Proofs.YtkefmjhagmacfaaGreatDoor
set_option linter.unusedVariables false
open Go Go.ChangeShapes Go.WideShapes Go.ChangeAt Go.RowKit
set_option maxRecDepth 100000

section
variable {H : Type} {enc : TypeId × Value → H} {P : Program} {w : World}
/-- What came in is not endless. -/
def Lean_ (P : Program) (t : TypeId) (d : DataW H) : Prop := ∀ n ∈ d.weights P t, n ≤ reachBytes
theorem weightsAll_mem {P : Program} {e : TypeId} {d : DataW H} {n : Nat} (hn : n ∈ d.weights P e) : ∀ {l : List (DataW H)}, d ∈ l → n ∈ DataW.weightsAll P e l
  | x :: l, h => by
    simp only [DataW.weightsAll, List.mem_append]
    rcases List.mem_cons.1 h with rfl | h
    · exact .inl hn
    · exact .inr (weightsAll_mem hn h)
theorem lean_slice {t e : TypeId} {a b : List (DataW H)} (ht : P.underlying t = some (.slice e)) (h : Lean_ P t (.slice a b)) : (a.length + b.length) * P.bytesOf e ≤ reachBytes ∧ ∀ d ∈ a, Lean_ P e d := by
  unfold Lean_ at h
  simp only [DataW.weights, ht, List.mem_cons, List.mem_append] at h
  exact ⟨h _ (.inl rfl), fun d hd n hn => h n (.inr (.inl (weightsAll_mem hn hd)))⟩
theorem open_list {α : Type} {cf : α → List Value} {Good : α → Prop} {t e : TypeId} {c fuel : Nat} {cs : List Value} {x : DataW H × List MemPlace} (ht : P.underlying t = some (.slice e)) (hc : P.cellsOf e = c) (hc0 : 0 < c) (hby : 0 < P.bytesOf e)
    (hcf : ∀ a, (cf a).length = c)
    (hel : ∀ n cs y, DataW.trod enc P w 0 (fun _ => true) true n e cs = some y → Lean_ P e y.1 → ∃ a : α, cs = cf a ∧ Good a)
    (h : DataW.trod enc P w 0 (fun _ => true) true fuel t cs = some x) (hw : Lean_ P t x.1) :
    ∃ (A : Option Addr) (cp : Nat) (l : List α), cs = [.slice A l.length cp] ∧ l.length ≤ cp ∧ Reads w w.heap.size c A l.length (l.flatMap cf) ∧ (∀ a ∈ l, Good a) ∧ l.length < 2 ^ 50 := by
  rcases Go.Deep.open_slice ht h with ⟨rfl, rfl⟩ | ⟨a, len, cap, m, n, D, Pl, rfl, _, hl, _, hm, rfl, hx⟩
  · exact ⟨none, 0, [], rfl, Nat.le_refl _, ⟨by simp, fun h => absurd h (by simp)⟩, by simp, by simp⟩
  · have hm : m = cap := by simpa using hm
    subst hm
    obtain ⟨hsz, hws⟩ := lean_slice ht hw
    have hsz : len < 2 ^ 50 := by
      simp only [List.length_map, List.length_range] at hsz
      have : reachBytes < 2 ^ 47 := reachBytes_lt
      have h2 : len + (m - len) ≤ (len + (m - len)) * P.bytesOf e := Nat.le_mul_of_pos_right _ hby
      omega
    have hex : ∀ i, i < len → ∃ v : α, Good v ∧ w.cells? 0 (a.add (i * c)) c = some (cf v) := fun i hi => by
      obtain ⟨cs', h1, h2⟩ := hx i (by omega)
      obtain ⟨v, rfl, hg⟩ := hel n cs' _ h2 (hws _ (List.mem_map.2 ⟨i, by simpa using hi, rfl⟩))
      rw [hc] at h1
      exact ⟨v, hg, h1⟩
    have hL : ∃ l : List α, l.length = len ∧ ∀ i v, l[i]? = some v → Good v ∧ w.cells? 0 (a.add (i * c)) c = some (cf v) := by
      clear hws hx hw h hm
      have : ∀ k, k ≤ len → ∃ l : List α, l.length = k ∧ ∀ i v, l[i]? = some v → Good v ∧ w.cells? 0 (a.add (i * c)) c = some (cf v) := by
        intro k
        induction k with
        | zero => exact fun _ => ⟨[], rfl, fun i v h => by simp at h⟩
        | succ k ih =>
          intro hk
          obtain ⟨l, h1, h2⟩ := ih (by omega)
          obtain ⟨v, hv⟩ := hex k (by omega)
          refine ⟨l ++ [v], by simp [h1], fun i u hu => ?_⟩
          rw [List.getElem?_append] at hu
          split at hu
          · exact h2 i u hu
          · rename_i hlt
            have hi : i - l.length = 0 := by
              have := (List.getElem?_eq_some_iff.1 hu).1
              simp at this; omega
            rw [hi] at hu
            simp at hu
            subst hu
            have : i = k := by omega
            rw [this]; exact hv
      exact this len (Nat.le_refl _)
    obtain ⟨l, hll, hg⟩ := hL
    have hcell : ∀ i v j, l[i]? = some v → j < c → w.cell? (a.add (i * c + j)) = (cf v)[j]? := fun i v j hv hj => by
      have := (World.cells?_some (hg i v hv).2).2.2 j hj
      rw [Go.Deep.add_add] at this
      exact this
    refine ⟨some a, m, l, by rw [hll], by omega, ⟨by rw [flat_len hcf], fun hn => ⟨a, rfl, ?_, fun j u hu => ?_⟩⟩, fun v hv => ?_, by omega⟩
    · obtain ⟨v, hv⟩ : ∃ v, l[0]? = some v := ⟨_, List.getElem?_eq_getElem hn⟩
      have h0 := hcell 0 v 0 hv hc0
      have : (cf v)[0]? = some ((cf v)[0]'(by rw [hcf]; exact hc0)) := List.getElem?_eq_getElem _
      rw [this] at h0
      have := World.block_lt_of_cell? w _ h0
      simpa [Addr.add] using this
    · have hjl : j < l.length * c := by
        have := (List.getElem?_eq_some_iff.1 hu).1
        rwa [flat_len hcf] at this
      have hd : j / c < l.length := Nat.div_lt_of_lt_mul (by rw [Nat.mul_comm]; exact hjl)
      have hr : j % c < c := Nat.mod_lt _ hc0
      have hj : j = j / c * c + j % c := by rw [Nat.mul_comm]; exact (Nat.div_add_mod j c).symm
      have hv : l[j / c]? = some l[j / c] := List.getElem?_eq_getElem hd
      rw [hj, flat_get hcf _ _ _ _ hv hr] at hu
      rw [hj, hcell _ _ _ hv hr]
      exact hu
    · obtain ⟨i, hi⟩ := List.mem_iff_getElem?.1 hv
      exact (hg i v hi).1
end
end Go.Proofs.YtkefmjhagmacfaaGreatDoor

/- A function of the program's that came in, opened. -/
namespace Go.Proofs.YtkefmjhagmacfaaGreatDoor
set_option linter.unusedVariables false
open Go Go.ChangeShapes Go.WideShapes Go.ChangeAt Go.RowKit
set_option maxRecDepth 100000

theorem lean_struct {H : Type} {P : Program} {t u : TypeId} {fs : Array Field} {parts : List (DataW H)} {d : DataW H} {j : Nat} (ht : P.underlying t = some (.struct fs)) (h : Lean_ P t (.agg parts)) (hu : (fs.toList.map (·.type))[j]? = some u) (hd : parts[j]? = some d) : Lean_ P u d := by
  unfold Lean_ at h ⊢
  simp only [DataW.weights, ht] at h
  exact fun n hn => h n (DataW.weights_mem_each hu hd n hn)
theorem list8 {α : Type} {l : List α} (h : l.length = 8) : ∃ a b c d e f g i, l = [a, b, c, d, e, f, g, i] := by
  match l, h with
  | [a, b, c, d, e, f, g, i], _ => exact ⟨a, b, c, d, e, f, g, i, rfl⟩
theorem i64_wf {n : Int} (h : (Lit.int .i64 n).wf = true) : -9223372036854775808 ≤ n ∧ n ≤ 9223372036854775807 := by
  have := i64_of_wf h
  unfold I64 at this; omega
theorem lean_each {H : Type} {P : Program} {ts : List TypeId} {ds : List (DataW H)} (h : (DataW.weightsEach P ts ds).all (· ≤ reachBytes) = true) {j : Nat} {t : TypeId} {d : DataW H} (ht : ts[j]? = some t) (hd : ds[j]? = some d) : Lean_ P t d := fun n hn => by
  simpa using List.all_eq_true.1 h n (DataW.weights_mem_each ht hd n hn)
section
theorem cells_Ins : Tryz.prog.cellsOf 110 = 8 := by kernel_rfl
theorem cells_Op : Tryz.prog.cellsOf 108 = 1 := by kernel_rfl
theorem cells_Lint : Tryz.prog.cellsOf 22 = 1 := by kernel_rfl
def IR (n : Int) : Prop := -9223372036854775808 ≤ n ∧ n ≤ 9223372036854775807
def GoodI (W : World) (i : RIns) : Prop := (∀ n ∈ [i.op, i.dst, i.a, i.b, i.imm, i.callee, i.many], IR n) ∧ i.args.length < 2 ^ 50 ∧ i.args.length ≤ i.aC ∧ (∀ n ∈ i.args, IR n) ∧ Reads W W.heap.size 1 i.aA i.args.length (ints i.args)
theorem flat_ints : ∀ l : List Int, l.flatMap (fun n : Int => [Value.int .i64 n]) = ints l
  | [] => rfl
  | a :: l => by rw [List.flatMap_cons, flat_ints l]; rfl
section
variable {H : Type} {enc : TypeId × Value → H} {W : World}
theorem open_intl {n : Nat} {cs : List Value} {y : DataW H × List MemPlace} (h : DataW.trod enc Tryz.prog W 0 (fun _ => true) true n 22 cs = some y) (hw : Lean_ Tryz.prog 22 y.1) :
    ∃ (A : Option Addr) (cp : Nat) (l : List Int), cs = [.slice A l.length cp] ∧ l.length ≤ cp ∧ Reads W W.heap.size 1 A l.length (ints l) ∧ (∀ a ∈ l, IR a) ∧ l.length < 2 ^ 50 := by
  obtain ⟨A, cp, l, h1, h2, h3, h4, h5⟩ := open_list (cf := fun n : Int => [.int .i64 n]) (Good := IR) Tryz.underlying22 cells_int (by decide) (by rw [bytes_int]; decide) (fun _ => rfl) (fun n cs y h _ => by
    obtain ⟨z, rfl, rfl, hw⟩ := DataW.trod_int Tryz.underlying3 h
    exact ⟨z, rfl, i64_wf hw⟩) h hw
  refine ⟨A, cp, l, h1, h2, ?_, h4, h5⟩
  rw [flat_ints] at h3
  exact h3
theorem open_ins {n : Nat} {cs : List Value} {y : DataW H × List MemPlace} (h : DataW.trod enc Tryz.prog W 0 (fun _ => true) true n 110 cs = some y) (hw : Lean_ Tryz.prog 110 y.1) : ∃ i : RIns, cs = i.cells ∧ GoodI W i := by
  obtain ⟨xs, m, _, rfl, hl, hlen, hf⟩ := DataW.trod_struct Tryz.underlying110 h
  simp only [List.size_toArray, List.length_cons, List.length_nil] at hlen
  obtain ⟨y0, y1, y2, y3, y4, y5, y6, y7, rfl⟩ := list8 hlen
  have hl8 : cs.length = 8 := hl.trans cells_Ins
  obtain ⟨c0, c1, c2, c3, c4, c5, c6, c7, rfl⟩ := list8 hl8
  have f0 : DataW.trod enc Tryz.prog W 0 (fun _ => true) true m 108 [c0] = some y0 := by
    have q := hf 0 _ rfl
    change DataW.trod enc Tryz.prog W 0 (fun _ => true) true m 108 (List.take (Tryz.prog.cellsOf 108) (List.drop 0 [c0, c1, c2, c3, c4, c5, c6, c7])) = some y0 at q
    rw [cells_Op] at q
    exact q
  have f1 : DataW.trod enc Tryz.prog W 0 (fun _ => true) true m 3 [c1] = some y1 := by
    have q := hf 1 _ rfl
    change DataW.trod enc Tryz.prog W 0 (fun _ => true) true m 3 (List.take (Tryz.prog.cellsOf 3) (List.drop 1 [c0, c1, c2, c3, c4, c5, c6, c7])) = some y1 at q
    rw [cells_int] at q
    exact q
  have f2 : DataW.trod enc Tryz.prog W 0 (fun _ => true) true m 3 [c2] = some y2 := by
    have q := hf 2 _ rfl
    change DataW.trod enc Tryz.prog W 0 (fun _ => true) true m 3 (List.take (Tryz.prog.cellsOf 3) (List.drop 2 [c0, c1, c2, c3, c4, c5, c6, c7])) = some y2 at q
    rw [cells_int] at q
    exact q
  have f3 : DataW.trod enc Tryz.prog W 0 (fun _ => true) true m 3 [c3] = some y3 := by
    have q := hf 3 _ rfl
    change DataW.trod enc Tryz.prog W 0 (fun _ => true) true m 3 (List.take (Tryz.prog.cellsOf 3) (List.drop 3 [c0, c1, c2, c3, c4, c5, c6, c7])) = some y3 at q
    rw [cells_int] at q
    exact q
  have f4 : DataW.trod enc Tryz.prog W 0 (fun _ => true) true m 3 [c4] = some y4 := by
    have q := hf 4 _ rfl
    change DataW.trod enc Tryz.prog W 0 (fun _ => true) true m 3 (List.take (Tryz.prog.cellsOf 3) (List.drop 4 [c0, c1, c2, c3, c4, c5, c6, c7])) = some y4 at q
    rw [cells_int] at q
    exact q
  have f5 : DataW.trod enc Tryz.prog W 0 (fun _ => true) true m 3 [c5] = some y5 := by
    have q := hf 5 _ rfl
    change DataW.trod enc Tryz.prog W 0 (fun _ => true) true m 3 (List.take (Tryz.prog.cellsOf 3) (List.drop 5 [c0, c1, c2, c3, c4, c5, c6, c7])) = some y5 at q
    rw [cells_int] at q
    exact q
  have f6 : DataW.trod enc Tryz.prog W 0 (fun _ => true) true m 22 [c6] = some y6 := by
    have q := hf 6 _ rfl
    change DataW.trod enc Tryz.prog W 0 (fun _ => true) true m 22 (List.take (Tryz.prog.cellsOf 22) (List.drop 6 [c0, c1, c2, c3, c4, c5, c6, c7])) = some y6 at q
    rw [cells_Lint] at q
    exact q
  have f7 : DataW.trod enc Tryz.prog W 0 (fun _ => true) true m 3 [c7] = some y7 := by
    have q := hf 7 _ rfl
    change DataW.trod enc Tryz.prog W 0 (fun _ => true) true m 3 (List.take (Tryz.prog.cellsOf 3) (List.drop 7 [c0, c1, c2, c3, c4, c5, c6, c7])) = some y7 at q
    rw [cells_int] at q
    exact q
  obtain ⟨z0, e0, _, w0⟩ := DataW.trod_int Tryz.underlying108 f0
  obtain ⟨z1, e1, _, w1⟩ := DataW.trod_int Tryz.underlying3 f1
  obtain ⟨z2, e2, _, w2⟩ := DataW.trod_int Tryz.underlying3 f2
  obtain ⟨z3, e3, _, w3⟩ := DataW.trod_int Tryz.underlying3 f3
  obtain ⟨z4, e4, _, w4⟩ := DataW.trod_int Tryz.underlying3 f4
  obtain ⟨z5, e5, _, w5⟩ := DataW.trod_int Tryz.underlying3 f5
  obtain ⟨z7, e7, _, w7⟩ := DataW.trod_int Tryz.underlying3 f7
  obtain ⟨A, cp, l, e6, h2, h3, h4, h5⟩ := open_intl f6 (lean_struct Tryz.underlying110 (parts := [y0.1, y1.1, y2.1, y3.1, y4.1, y5.1, y6.1, y7.1]) hw (j := 6) rfl rfl)
  simp only [List.cons.injEq, and_true] at e0 e1 e2 e3 e4 e5 e6 e7
  subst e0 e1 e2 e3 e4 e5 e6 e7
  refine ⟨⟨z0, z1, z2, z3, z4, z5, A, cp, l, z7⟩, rfl, ?_, h5, h2, h4, h3⟩
  intro n hn
  simp only [List.mem_cons, List.not_mem_nil, or_false] at hn
  rcases hn with rfl | rfl | rfl | rfl | rfl | rfl | rfl
  all_goals exact i64_wf (by assumption)
theorem list4 {α : Type} {l : List α} (h : l.length = 4) : ∃ a b c d, l = [a, b, c, d] := by
  match l, h with
  | [a, b, c, d], _ => exact ⟨a, b, c, d, rfl⟩
theorem list5 {α : Type} {l : List α} (h : l.length = 5) : ∃ a b c d e, l = [a, b, c, d, e] := by
  match l, h with
  | [a, b, c, d, e], _ => exact ⟨a, b, c, d, e, rfl⟩
theorem list3 {α : Type} {l : List α} (h : l.length = 3) : ∃ a b c, l = [a, b, c] := by
  match l, h with
  | [a, b, c], _ => exact ⟨a, b, c, rfl⟩
theorem list2 {α : Type} {l : List α} (h : l.length = 2) : ∃ a b, l = [a, b] := by
  match l, h with
  | [a, b], _ => exact ⟨a, b, rfl⟩
theorem cells_Term : Tryz.prog.cellsOf 47 = 4 := by kernel_rfl
theorem cells_Kind : Tryz.prog.cellsOf 44 = 1 := by kernel_rfl
theorem cells_A2 : Tryz.prog.cellsOf 45 = 2 := by kernel_rfl
theorem cells_Block : Tryz.prog.cellsOf 49 = 5 := by kernel_rfl
theorem cells_Func : Tryz.prog.cellsOf 25 = 2 := by kernel_rfl
theorem cells_LIns : Tryz.prog.cellsOf 43 = 1 := by kernel_rfl
theorem cells_LBlk : Tryz.prog.cellsOf 23 = 1 := by kernel_rfl
theorem open_term {n : Nat} {cs : List Value} {y : DataW H × List MemPlace} (h : DataW.trod enc Tryz.prog W 0 (fun _ => true) true n 47 cs = some y) : ∃ t : Tm, cs = t.cells ∧ ∀ n ∈ [t.kind, t.a, t.t0, t.t1], IR n := by
  obtain ⟨xs, m, _, rfl, hl, hlen, hf⟩ := DataW.trod_struct Tryz.underlying47 h
  simp only [List.size_toArray, List.length_cons, List.length_nil] at hlen
  obtain ⟨y0, y1, y2, rfl⟩ := list3 hlen
  have hl4 : cs.length = 4 := hl.trans cells_Term
  obtain ⟨c0, c1, c2, c3, rfl⟩ := list4 hl4
  have f0 : DataW.trod enc Tryz.prog W 0 (fun _ => true) true m 44 [c0] = some y0 := by
    have q := hf 0 _ rfl
    change DataW.trod enc Tryz.prog W 0 (fun _ => true) true m 44 (List.take (Tryz.prog.cellsOf 44) (List.drop 0 [c0, c1, c2, c3])) = some y0 at q
    rw [cells_Kind] at q
    exact q
  have f1 : DataW.trod enc Tryz.prog W 0 (fun _ => true) true m 3 [c1] = some y1 := by
    have q := hf 1 _ rfl
    change DataW.trod enc Tryz.prog W 0 (fun _ => true) true m 3 (List.take (Tryz.prog.cellsOf 3) (List.drop 1 [c0, c1, c2, c3])) = some y1 at q
    rw [cells_int] at q
    exact q
  have f2 : DataW.trod enc Tryz.prog W 0 (fun _ => true) true m 45 [c2, c3] = some y2 := by
    have q := hf 2 _ rfl
    change DataW.trod enc Tryz.prog W 0 (fun _ => true) true m 45 (List.take (Tryz.prog.cellsOf 45) (List.drop 2 [c0, c1, c2, c3])) = some y2 at q
    rw [cells_A2] at q
    exact q
  obtain ⟨xs, m2, _, e2, hl2, hlen2, hf2⟩ := DataW.trod_array Tryz.underlying45 f2
  obtain ⟨y3, y4, rfl⟩ := list2 hlen2
  have g0 : DataW.trod enc Tryz.prog W 0 (fun _ => true) true m2 3 [c2] = some y3 := by
    have q := hf2 0 (by decide)
    rw [cells_int] at q
    exact q
  have g1 : DataW.trod enc Tryz.prog W 0 (fun _ => true) true m2 3 [c3] = some y4 := by
    have q := hf2 1 (by decide)
    rw [cells_int] at q
    exact q
  obtain ⟨z0, e0, _, w0⟩ := DataW.trod_int Tryz.underlying44 f0
  obtain ⟨z1, e1, _, w1⟩ := DataW.trod_int Tryz.underlying3 f1
  obtain ⟨z2, e2, _, w2⟩ := DataW.trod_int Tryz.underlying3 g0
  obtain ⟨z3, e3, _, w3⟩ := DataW.trod_int Tryz.underlying3 g1
  simp only [List.cons.injEq, and_true] at e0 e1 e2 e3
  subst e0 e1 e2 e3
  refine ⟨⟨z0, z1, z2, z3⟩, rfl, ?_⟩
  intro n hn
  simp only [List.mem_cons, List.not_mem_nil, or_false] at hn
  rcases hn with rfl | rfl | rfl | rfl
  all_goals exact i64_wf (by assumption)
def GoodB (W : World) (b : RBlk) : Prop := (∀ n ∈ [b.term.kind, b.term.a, b.term.t0, b.term.t1], IR n) ∧ b.ins.length < 2 ^ 50 ∧ b.ins.length ≤ b.iC ∧ (∀ i ∈ b.ins, GoodI W i) ∧ Reads W W.heap.size 8 b.iA b.ins.length (b.ins.flatMap RIns.cells)
theorem open_block {n : Nat} {cs : List Value} {y : DataW H × List MemPlace} (h : DataW.trod enc Tryz.prog W 0 (fun _ => true) true n 49 cs = some y) (hw : Lean_ Tryz.prog 49 y.1) : ∃ b : RBlk, cs = b.cells ∧ GoodB W b := by
  obtain ⟨xs, m, _, rfl, hl, hlen, hf⟩ := DataW.trod_struct Tryz.underlying49 h
  simp only [List.size_toArray, List.length_cons, List.length_nil] at hlen
  obtain ⟨y0, y1, rfl⟩ := list2 hlen
  have hl5 : cs.length = 5 := hl.trans cells_Block
  obtain ⟨c0, c1, c2, c3, c4, rfl⟩ := list5 hl5
  have f0 : DataW.trod enc Tryz.prog W 0 (fun _ => true) true m 43 [c0] = some y0 := by
    have q := hf 0 _ rfl
    change DataW.trod enc Tryz.prog W 0 (fun _ => true) true m 43 (List.take (Tryz.prog.cellsOf 43) (List.drop 0 [c0, c1, c2, c3, c4])) = some y0 at q
    rw [cells_LIns] at q
    exact q
  have f1 : DataW.trod enc Tryz.prog W 0 (fun _ => true) true m 47 [c1, c2, c3, c4] = some y1 := by
    have q := hf 1 _ rfl
    change DataW.trod enc Tryz.prog W 0 (fun _ => true) true m 47 (List.take (Tryz.prog.cellsOf 47) (List.drop 1 [c0, c1, c2, c3, c4])) = some y1 at q
    rw [cells_Term] at q
    exact q
  obtain ⟨t, e1, ht⟩ := open_term f1
  obtain ⟨A, cp, l, e0, h1, h2, h3, h4⟩ := open_list (cf := RIns.cells) (Good := GoodI W) Tryz.underlying43 cells_Ins (by decide) (of_decide_eq_true (by kernel_rfl)) RIns.len (fun n cs y h hw => open_ins h hw) f0 (lean_struct Tryz.underlying49 (parts := [y0.1, y1.1]) hw (j := 0) rfl rfl)
  simp only [List.cons.injEq, and_true] at e0
  subst e0
  rw [e1]
  exact ⟨⟨A, cp, l, t⟩, rfl, ht, h4, h1, h3, h2⟩
theorem reads_func {v : Value} {d : DataW H} {p : List MemPlace} (h : DataW.Trod enc Tryz.prog W 0 (fun _ => true) true 25 v d p) (hv : ∃ cs, v = .agg cs) (hw : Lean_ Tryz.prog 25 d) : ∃ f : RFun, v = f.val ∧ FunAt W W.heap.size f ∧ Fit f := by
  obtain ⟨fuel, h⟩ := h
  obtain ⟨cs, rfl⟩ := hv
  obtain ⟨xs, m, _, e, hl, hlen, hf⟩ := DataW.trod_struct Tryz.underlying25 h
  simp only [List.size_toArray, List.length_cons, List.length_nil] at hlen
  obtain ⟨y0, y1, rfl⟩ := list2 hlen
  have hl2 : cs.toList.length = 2 := by simpa [Value.cells] using hl.trans cells_Func
  obtain ⟨c0, c1, hcs⟩ := list2 hl2
  have ed : d = .agg [y0.1, y1.1] := congrArg Prod.fst e
  subst ed
  simp only [Value.cells, hcs] at hf
  have f0 : DataW.trod enc Tryz.prog W 0 (fun _ => true) true m 22 [c0] = some y0 := by
    have q := hf 0 _ rfl
    change DataW.trod enc Tryz.prog W 0 (fun _ => true) true m 22 (List.take (Tryz.prog.cellsOf 22) (List.drop 0 [c0, c1])) = some y0 at q
    rw [cells_Lint] at q
    exact q
  have f1 : DataW.trod enc Tryz.prog W 0 (fun _ => true) true m 23 [c1] = some y1 := by
    have q := hf 1 _ rfl
    change DataW.trod enc Tryz.prog W 0 (fun _ => true) true m 23 (List.take (Tryz.prog.cellsOf 23) (List.drop 1 [c0, c1])) = some y1 at q
    rw [cells_LBlk] at q
    exact q
  obtain ⟨A, cp, l, e0, h1, h2, h3, h4⟩ := open_intl f0 (lean_struct Tryz.underlying25 (parts := [y0.1, y1.1]) hw (j := 0) rfl rfl)
  obtain ⟨A2, cp2, l2, e1, k1, k2, k3, k4⟩ := open_list (cf := RBlk.cells) (Good := GoodB W) Tryz.underlying23 cells_Block (by decide) (of_decide_eq_true (by kernel_rfl)) RBlk.len (fun n cs y h hw => open_block h hw) f1 (lean_struct Tryz.underlying25 (parts := [y0.1, y1.1]) hw (j := 1) rfl rfl)
  simp only [List.cons.injEq, and_true] at e0 e1
  subst e0 e1
  refine ⟨⟨A, cp, l, A2, cp2, l2⟩, ?_, ⟨h2, k2, fun b hb => (k3 b hb).2.2.2.2, fun b hb i hi => ((k3 b hb).2.2.2.1 i hi).2.2.2.2⟩, ?_⟩
  · have : cs = [Value.slice A l.length cp, .slice A2 l2.length cp2].toArray := by rw [← hcs]
    rw [this]; rfl
  · exact ⟨h3, h4, k4, h1, k1, fun b hb => (k3 b hb).2.1, fun b hb => (k3 b hb).2.2.1, fun b hb => (k3 b hb).1, fun b hb i hi => ((k3 b hb).2.2.2.1 i hi).1, fun b hb i hi => ((k3 b hb).2.2.2.1 i hi).2.1, fun b hb i hi => ((k3 b hb).2.2.2.1 i hi).2.2.1, fun b hb i hi => ((k3 b hb).2.2.2.1 i hi).2.2.2.1⟩
end
end
end Go.Proofs.YtkefmjhagmacfaaGreatDoor

/- FlowTells (the tied card): for every input that can be read, the law FlowTells returns true and its arguments read as before. Conditions: the row, its listed table of math/bits tied to the text of the program. -/
namespace Go.Proofs.YtkefmjhagmacfaaGreatDoor
set_option linter.unusedVariables false
open Go Go.ChangeShapes Go.WideShapes Go.ChangeAt Go.RowKit
set_option maxRecDepth 100000

theorem flowTells_lifted (os : Os) (started : os.Started) (H : Type) (enc : TypeId × Value → H) :
    ReturnsInHanded {} Tryz.checked os 3 .any (fun w args => (Rows.flowTellsSpec.pre enc Tryz.prog Tryz.f3 [] false w args ∧ laidMetH Tryz.prog tabL w) ∧ sizedMet enc Tryz.prog Tryz.f3 (OpenSpec.ofChange Rows.flowTellsSpec) false w args)
      (Rows.flowTellsSpec.post enc Tryz.prog Tryz.f3 false true false false) := by
  refine returnsInHanded_of_change_and (C := Tryz.checked) (X := fun w _ => laidMetH Tryz.prog tabL w) (fun _ _ _ hh h => h.of_heap hh) own_ started (by kernel_rfl) Tryz.func3
    (ChangeSpec.witness_shaped (enc := enc) (C := Tryz.checked) (os := os) (X := fun w _ => laidMetH Tryz.prog tabL w) false (World.doorLaid Tryz.prog 14 os) #[.agg #[.slice none 0 0, .slice none 0 0], .int .i64 0, .slice none 0 0, .slice none 0 0] 8 rfl (World.shaped_of_RefB (by kernel_rfl) (by kernel_rfl)) (by kernel_rfl) (by kernel_rfl) (by kernel_rfl) (door_met os _)) ?_
  intro W base args ds gs before hval0 hW _ hsz0 hL _
  have hT := tabs_of_laid hL
  have hval : ∀ (j : Nat) t v, Tryz.f3.params[j]? = some t → args[j]? = some v → Value.okWide Tryz.prog W .any base t v := hval0
  have hW' := hW
  obtain ⟨p, q, hA0, hV, rfl, hfz, hnd⟩ := hW
  have hA : DataW.TrodAll enc Tryz.prog W 0 (fun _ => true) true Tryz.f3.params.toList args.toList ds p := hA0
  have hsz : (DataW.weightsEach Tryz.prog (Tryz.f3.params.toList ++ Rows.flowTellsSpec.plain.varTypes Tryz.prog) (ds ++ gs)).all (· ≤ reachBytes) = true := hsz0
  rw [Tryz.params3] at hA hval hsz
  obtain ⟨v0, vs0, d0, ds0, p0, q0, hargs, rfl, rfl, h0, r0⟩ := trodAll_cons hA
  obtain ⟨v1, vs1, d1, ds1, p1, q1, rfl, rfl, rfl, h1, r1⟩ := trodAll_cons r0
  obtain ⟨v2, vs2, d2, ds2, p2, q2, rfl, rfl, rfl, h2, r2⟩ := trodAll_cons r1
  obtain ⟨v3, vs3, d3, ds3, p3, q3, rfl, rfl, rfl, h3, r3⟩ := trodAll_cons r2
  obtain ⟨rfl, rfl, rfl⟩ := trodAll_nil r3
  obtain rfl : args = #[v0, v1, v2, v3] := by cases args; simp_all
  obtain ⟨rfl, rfl⟩ := trodVars_none hV
  have k0 := h0
  have lt0 : ∀ x ∈ p0, x.block < W.heap.size := by obtain ⟨m, hm⟩ := k0; exact DataW.trod_lt m _ _ _ hm
  obtain ⟨z0, rfl, x0, y0⟩ := reads_func h0 (Exists.imp (fun _ h => h.1) (okWide_struct Tryz.underlying25 (hval 0 25 v0 rfl rfl))) (lean_each hsz (j := 0) rfl rfl)
  obtain ⟨z1, rfl, rfl, rfl, wf1⟩ := open_int Tryz.underlying3 (hval 1 3 v1 rfl rfl) h1
  have i1 := i64_of_wf wf1
  obtain ⟨a2, len2, cap2, rfl⟩ := okWide_slice Tryz.underlying22 (hval 2 22 v2 rfl rfl)
  have k2 := h2
  have lt2 : ∀ x ∈ p2, x.block < W.heap.size := by obtain ⟨m, hm⟩ := k2; exact DataW.trod_lt m _ _ _ hm
  obtain ⟨z2, rfl, c2, x2, i2, hd2⟩ := reads_ints h2
  have l2 : z2.length < 2 ^ 60 := by
    rcases hd2 with h00 | ⟨elems, spare, rfl, hle⟩
    · omega
    · have := sized_slice hsz (j := 2) (t := 22) (e := 3) rfl rfl Tryz.underlying22
      rw [bytes_int] at this
      unfold reachBytes at this
      omega
  obtain ⟨a3, len3, cap3, rfl⟩ := okWide_slice Tryz.underlying22 (hval 3 22 v3 rfl rfl)
  have k3 := h3
  have lt3 : ∀ x ∈ p3, x.block < W.heap.size := by obtain ⟨m, hm⟩ := k3; exact DataW.trod_lt m _ _ _ hm
  obtain ⟨z3, rfl, c3, x3, i3, hd3⟩ := reads_ints h3
  have l3 : z3.length < 2 ^ 60 := by
    rcases hd3 with h00 | ⟨elems, spare, rfl, hle⟩
    · omega
    · have := sized_slice hsz (j := 3) (t := 22) (e := 3) rfl rfl Tryz.underlying22
      rw [bytes_int] at this
      unfold reachBytes at this
      omega
  clear hA0 hval0
  refine ((law10_FlowTells_ct hT x0 y0 x2 x3 i2 i3 l2 l3).calls).mono fun e W' ⟨v, he, L, hh, hv, _⟩ => ?_
  subst hv
  subst he
  have bel := hh.below
  exact ⟨_, rfl, _, _, _, [], _, [], hW', trodAll_mk1 (shut_bool Tryz.underlying4 _), (trodAll_cons_mk (Below.trod laidOut_ (by kernel_rfl) (of_decide_eq_true (by kernel_rfl)) k0 bel lt0) (trodAll_cons_mk (shut_int Tryz.underlying3 wf1) (trodAll_cons_mk (Below.trod laidOut_ (by kernel_rfl) (of_decide_eq_true (by kernel_rfl)) k2 bel lt2) (trodAll_cons_mk (Below.trod laidOut_ (by kernel_rfl) (of_decide_eq_true (by kernel_rfl)) k3 bel lt3) trodAll_mk0)))), rfl, bel.frame _, fun h => by cases h⟩
theorem flowTells_said : Rows.FlowTellsSaid :=
  OpenClaim.holds_of_wide 3 Tryz.f3 rfl rfl rfl rfl rfl rfl rfl ⟨rfl, rfl, rfl, rfl, rfl⟩ rfl rfl rfl rfl rfl (by kernel_rfl) Tryz.func3 (by kernel_rfl)
    (of_decide_eq_true (by kernel_rfl)) (by unfold Func.isWrapper; rw [if_neg (of_decide_eq_false (by kernel_rfl))]; exact ⟨rfl, rfl⟩)
    (fun os started H enc _ => flowTells_lifted os started H enc)
theorem flowTells_card : Rows.FlowTellsCardSaid :=
  Claim7.holds_tied_plain_at .later [] [.data] true Rows.flowTellsCard.stood.harness false flowTells_said (fun _ h => by cases h) (by kernel_rfl) (fun _ h => by cases h) flowTells_row_tie rfl ⟨rfl, rfl⟩ (by kernel_rfl) rfl
    (fun f fn hf hfn => by
      obtain rfl : f = 3 := Option.some.inj ((show Tryz.prog.funcNamed "intarsia/intarsialaw10.FlowTells" = some 3 by kernel_rfl).symm.trans hf) |>.symm
      obtain rfl : fn = Tryz.f3 := (Option.some.inj (Tryz.func3.symm.trans hfn)).symm
      exact ⟨by kernel_rfl, fun j t ht => by
        rw [Tryz.params3] at ht
        have hm : t ∈ [25, 3, 22, 22] := by simpa using Array.mem_of_getElem? ht
        have hall : ([25, 3, 22, 22].all fun u => !Tryz.prog.wantsStandIn u) = true := by kernel_rfl
        exact (show Tryz.prog.wantsStandIn t = false by simpa using List.all_eq_true.1 hall t hm)⟩)
    (by kernel_rfl)
end Go.Proofs.YtkefmjhagmacfaaGreatDoor

