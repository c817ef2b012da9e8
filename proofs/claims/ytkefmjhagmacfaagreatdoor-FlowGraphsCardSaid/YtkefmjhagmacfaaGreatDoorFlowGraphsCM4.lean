/- FlowGraphs (the tied card): for every input that can be read, the law FlowGraphs returns true and its arguments read as before. Conditions: the row, its listed table of math/bits tied to the text of the program. -/
/- Part 4 of the proof of FlowGraphsC: the texts Flat0, Apart, Count, Siz, FlowTells, DrawU, RefF, IrVars, Pick, Law03, Ren, Most, RefG, RefH, IrTells, IrLit, RowSt, FlowGraphs, FlowGraphsC, one behind the other. -/
import Derived.Test.YtkefmjhagmacfaaGreatDoorCards
import Derived.Test.YtkefmjhagmacfaaGreatDoorTie
import Derived.SevenTiedAt
import Derived.Test.YtkefmjhagmacfaaGreatDoorFlowGraphsCM3
/- The kit: lists that lie apart: at no lists, walked. -/
namespace Go.Proofs.YtkefmjhagmacfaaGreatDoor
set_option linter.unusedVariables false
open Go Go.RowKit
set_option maxRecDepth 100000
section
theorem kit_flatLimbs_nil {w : World} : Ct Tryz.prog 89 #[.slice none 0 0] w (Is (.bool true)) := by
  refine Ct.mk Tryz.func89 rfl rfl ?_
  refine Cd.seq ?_
  refine Cd.region ?_
  refine Ol.p asb ?_
  refine Ol.nil ?_
  refine Cd.seq ?_
  refine Cd.seq ?_
  refine Cd.region ?_
  refine Ol.p asi ?_
  refine Ol.nil ?_
  refine Cd.block ?_
  refine Cd.loop (fun m σ L => Has σ [(0, .slice none 0 0), (3, .int .i64 0)] ∧ [] = L) (n := 0) ⟨⟨rfl, rfl, trivial⟩, rfl⟩ ?_
  rintro _ σ L ⟨hs, rfl⟩
  refine Cd.has hs ?_
  clear hs
  refine Cd.seq ?_
  refine Cd.seq ?_
  refine Cd.region ?_
  refine Ol.p mvi ?_
  refine Ol.p mvs ?_
  refine Ol.p (lens sl_L_L_uint32) ?_
  refine Ol.p lsi ?_
  refine Ol.nil ?_
  refine Cd.cond rfl (fun h => absurd h (by decide)) (fun _ => ?_)
  refine Cd.exit (id := 0) ?_
  refine Cd.seq ?_
  refine Cd.region ?_
  refine Ol.p mvs ?_
  refine Ol.p (lens sl_L_L_uint32) ?_
  refine Ol.x (mks (n := 0) (c := 0) sl_L_L_uint32 zr_L_uint32) ?_
  rintro _ _ ⟨gm, rfl, rfl⟩
  refine Ol.p ass ?_
  refine Ol.nil ?_
  obtain ⟨VG, hVG⟩ : ∃ V, V = Value.slice (some ⟨gm, 0, none⟩) 0 0 := ⟨_, rfl⟩
  rw [← hVG]
  obtain ⟨LG, hLG⟩ : ∃ LG : List Res, LG = [row VG 140 1 0 ((madeCells (Value.slice none 0 0).cells (0 * 1)).toList.take (0 * 1))] := ⟨_, rfl⟩
  rw [← hLG]
  refine Cd.seq ?_
  refine Cd.seq ?_
  refine Cd.region ?_
  refine Ol.p asi ?_
  refine Ol.nil ?_
  refine Cd.block ?_
  refine Cd.loop (fun m σ L => Has σ [(0, .slice none 0 0), (5, VG), (6, .int .i64 0)] ∧ LG = L) (n := 0) ⟨⟨rfl, rfl, rfl, trivial⟩, rfl⟩ ?_
  rintro _ σ L ⟨hs, rfl⟩
  refine Cd.has hs ?_
  clear hs
  refine Cd.seq ?_
  refine Cd.seq ?_
  refine Cd.region ?_
  refine Ol.p mvi ?_
  refine Ol.p mvs ?_
  refine Ol.p (lens sl_L_L_uint32) ?_
  refine Ol.p lsi ?_
  refine Ol.nil ?_
  refine Cd.cond rfl (fun h => absurd h (by decide)) (fun _ => ?_)
  refine Cd.exit (id := 4) ?_
  refine Cd.seq ?_
  refine Cd.seq ?_
  refine Cd.region ?_
  refine Ol.p asi ?_
  refine Ol.nil ?_
  refine Cd.block ?_
  refine Cd.loop (fun m σ L => Has σ [(0, .slice none 0 0), (5, VG), (9, .int .i64 0)] ∧ LG = L) (n := 0) ⟨⟨rfl, rfl, rfl, trivial⟩, rfl⟩ ?_
  rintro _ σ L ⟨hs, rfl⟩
  refine Cd.has hs ?_
  clear hs
  refine Cd.seq ?_
  refine Cd.seq ?_
  refine Cd.region ?_
  refine Ol.p mvi ?_
  refine Ol.p mvs ?_
  refine Ol.p (lens sl_L_L_uint32) ?_
  refine Ol.p lsi ?_
  refine Ol.nil ?_
  refine Cd.cond rfl (fun h => absurd h (by decide)) (fun _ => ?_)
  refine Cd.exit (id := 8) ?_
  refine Cd.seq ?_
  refine Cd.seq ?_
  refine Cd.region ?_
  refine Ol.p asi ?_
  refine Ol.nil ?_
  refine Cd.block ?_
  refine Cd.loop (fun m σ L => Has σ [(0, .slice none 0 0), (5, VG), (11, .int .i64 0)] ∧ LG = L) (n := 0) ⟨⟨rfl, rfl, rfl, trivial⟩, rfl⟩ ?_
  rintro _ σ L ⟨hs, rfl⟩
  refine Cd.has hs ?_
  clear hs
  refine Cd.seq ?_
  refine Cd.seq ?_
  refine Cd.region ?_
  refine Ol.p mvi ?_
  refine Ol.p mvs ?_
  refine Ol.p (lens sl_L_L_uint32) ?_
  refine Ol.p lsi ?_
  refine Ol.nil ?_
  refine Cd.cond rfl (fun h => absurd h (by decide)) (fun _ => ?_)
  refine Cd.exit (id := 12) ?_
  refine Cd.seq ?_
  refine Cd.seq ?_
  refine Cd.region ?_
  refine Ol.p asi ?_
  refine Ol.nil ?_
  refine Cd.block ?_
  refine Cd.loop (fun m σ L => Has σ [(0, .slice none 0 0), (5, VG), (14, .int .i64 0)] ∧ LG = L) (n := 0) ⟨⟨rfl, rfl, rfl, trivial⟩, rfl⟩ ?_
  rintro _ σ L ⟨hs, rfl⟩
  refine Cd.has hs ?_
  clear hs
  refine Cd.seq ?_
  refine Cd.seq ?_
  refine Cd.region ?_
  refine Ol.p mvi ?_
  refine Ol.p mvs ?_
  refine Ol.p (lens sl_L_L_uint32) ?_
  refine Ol.p lsi ?_
  refine Ol.nil ?_
  refine Cd.cond rfl (fun h => absurd h (by decide)) (fun _ => ?_)
  refine Cd.exit (id := 16) ?_
  refine Cd.seq ?_
  refine Cd.region ?_
  refine Ol.p asb ?_
  refine Ol.nil ?_
  exact Cd.ret ⟨.bool true, ret1 rfl rfl, [], Keep.nil, rfl, rfl⟩
theorem kit_flatWords_nil {w : World} : Ct Tryz.prog 90 #[.slice none 0 0] w (Is (.bool true)) := by
  refine Ct.mk Tryz.func90 rfl rfl ?_
  refine Cd.seq ?_
  refine Cd.region ?_
  refine Ol.p asb ?_
  refine Ol.nil ?_
  refine Cd.seq ?_
  refine Cd.seq ?_
  refine Cd.region ?_
  refine Ol.p asi ?_
  refine Ol.nil ?_
  refine Cd.block ?_
  refine Cd.loop (fun m σ L => Has σ [(0, .slice none 0 0), (3, .int .i64 0)] ∧ [] = L) (n := 0) ⟨⟨rfl, rfl, trivial⟩, rfl⟩ ?_
  rintro _ σ L ⟨hs, rfl⟩
  refine Cd.has hs ?_
  clear hs
  refine Cd.seq ?_
  refine Cd.seq ?_
  refine Cd.region ?_
  refine Ol.p mvi ?_
  refine Ol.p mvs ?_
  refine Ol.p (lens sl_L_L_uint64) ?_
  refine Ol.p lsi ?_
  refine Ol.nil ?_
  refine Cd.cond rfl (fun h => absurd h (by decide)) (fun _ => ?_)
  refine Cd.exit (id := 0) ?_
  refine Cd.seq ?_
  refine Cd.region ?_
  refine Ol.p mvs ?_
  refine Ol.p (lens sl_L_L_uint64) ?_
  refine Ol.x (mks (n := 0) (c := 0) sl_L_L_uint64 zr_L_uint64) ?_
  rintro _ _ ⟨gm, rfl, rfl⟩
  refine Ol.p ass ?_
  refine Ol.nil ?_
  obtain ⟨VG, hVG⟩ : ∃ V, V = Value.slice (some ⟨gm, 0, none⟩) 0 0 := ⟨_, rfl⟩
  rw [← hVG]
  obtain ⟨LG, hLG⟩ : ∃ LG : List Res, LG = [row VG 142 1 0 ((madeCells (Value.slice none 0 0).cells (0 * 1)).toList.take (0 * 1))] := ⟨_, rfl⟩
  rw [← hLG]
  refine Cd.seq ?_
  refine Cd.seq ?_
  refine Cd.region ?_
  refine Ol.p asi ?_
  refine Ol.nil ?_
  refine Cd.block ?_
  refine Cd.loop (fun m σ L => Has σ [(0, .slice none 0 0), (5, VG), (6, .int .i64 0)] ∧ LG = L) (n := 0) ⟨⟨rfl, rfl, rfl, trivial⟩, rfl⟩ ?_
  rintro _ σ L ⟨hs, rfl⟩
  refine Cd.has hs ?_
  clear hs
  refine Cd.seq ?_
  refine Cd.seq ?_
  refine Cd.region ?_
  refine Ol.p mvi ?_
  refine Ol.p mvs ?_
  refine Ol.p (lens sl_L_L_uint64) ?_
  refine Ol.p lsi ?_
  refine Ol.nil ?_
  refine Cd.cond rfl (fun h => absurd h (by decide)) (fun _ => ?_)
  refine Cd.exit (id := 4) ?_
  refine Cd.seq ?_
  refine Cd.seq ?_
  refine Cd.region ?_
  refine Ol.p asi ?_
  refine Ol.nil ?_
  refine Cd.block ?_
  refine Cd.loop (fun m σ L => Has σ [(0, .slice none 0 0), (5, VG), (9, .int .i64 0)] ∧ LG = L) (n := 0) ⟨⟨rfl, rfl, rfl, trivial⟩, rfl⟩ ?_
  rintro _ σ L ⟨hs, rfl⟩
  refine Cd.has hs ?_
  clear hs
  refine Cd.seq ?_
  refine Cd.seq ?_
  refine Cd.region ?_
  refine Ol.p mvi ?_
  refine Ol.p mvs ?_
  refine Ol.p (lens sl_L_L_uint64) ?_
  refine Ol.p lsi ?_
  refine Ol.nil ?_
  refine Cd.cond rfl (fun h => absurd h (by decide)) (fun _ => ?_)
  refine Cd.exit (id := 8) ?_
  refine Cd.seq ?_
  refine Cd.seq ?_
  refine Cd.region ?_
  refine Ol.p asi ?_
  refine Ol.nil ?_
  refine Cd.block ?_
  refine Cd.loop (fun m σ L => Has σ [(0, .slice none 0 0), (5, VG), (11, .int .i64 0)] ∧ LG = L) (n := 0) ⟨⟨rfl, rfl, rfl, trivial⟩, rfl⟩ ?_
  rintro _ σ L ⟨hs, rfl⟩
  refine Cd.has hs ?_
  clear hs
  refine Cd.seq ?_
  refine Cd.seq ?_
  refine Cd.region ?_
  refine Ol.p mvi ?_
  refine Ol.p mvs ?_
  refine Ol.p (lens sl_L_L_uint64) ?_
  refine Ol.p lsi ?_
  refine Ol.nil ?_
  refine Cd.cond rfl (fun h => absurd h (by decide)) (fun _ => ?_)
  refine Cd.exit (id := 12) ?_
  refine Cd.seq ?_
  refine Cd.seq ?_
  refine Cd.region ?_
  refine Ol.p asi ?_
  refine Ol.nil ?_
  refine Cd.block ?_
  refine Cd.loop (fun m σ L => Has σ [(0, .slice none 0 0), (5, VG), (14, .int .i64 0)] ∧ LG = L) (n := 0) ⟨⟨rfl, rfl, rfl, trivial⟩, rfl⟩ ?_
  rintro _ σ L ⟨hs, rfl⟩
  refine Cd.has hs ?_
  clear hs
  refine Cd.seq ?_
  refine Cd.seq ?_
  refine Cd.region ?_
  refine Ol.p mvi ?_
  refine Ol.p mvs ?_
  refine Ol.p (lens sl_L_L_uint64) ?_
  refine Ol.p lsi ?_
  refine Ol.nil ?_
  refine Cd.cond rfl (fun h => absurd h (by decide)) (fun _ => ?_)
  refine Cd.exit (id := 16) ?_
  refine Cd.seq ?_
  refine Cd.region ?_
  refine Ol.p asb ?_
  refine Ol.nil ?_
  exact Cd.ret ⟨.bool true, ret1 rfl rfl, [], Keep.nil, rfl, rfl⟩
theorem kit_flatLongs_nil {w : World} : Ct Tryz.prog 92 #[.slice none 0 0] w (Is (.bool true)) := by
  refine Ct.mk Tryz.func92 rfl rfl ?_
  refine Cd.seq ?_
  refine Cd.region ?_
  refine Ol.p asb ?_
  refine Ol.nil ?_
  refine Cd.seq ?_
  refine Cd.seq ?_
  refine Cd.region ?_
  refine Ol.p asi ?_
  refine Ol.nil ?_
  refine Cd.block ?_
  refine Cd.loop (fun m σ L => Has σ [(0, .slice none 0 0), (3, .int .i64 0)] ∧ [] = L) (n := 0) ⟨⟨rfl, rfl, trivial⟩, rfl⟩ ?_
  rintro _ σ L ⟨hs, rfl⟩
  refine Cd.has hs ?_
  clear hs
  refine Cd.seq ?_
  refine Cd.seq ?_
  refine Cd.region ?_
  refine Ol.p mvi ?_
  refine Ol.p mvs ?_
  refine Ol.p (lens sl_L_L_int64) ?_
  refine Ol.p lsi ?_
  refine Ol.nil ?_
  refine Cd.cond rfl (fun h => absurd h (by decide)) (fun _ => ?_)
  refine Cd.exit (id := 0) ?_
  refine Cd.seq ?_
  refine Cd.region ?_
  refine Ol.p mvs ?_
  refine Ol.p (lens sl_L_L_int64) ?_
  refine Ol.x (mks (n := 0) (c := 0) sl_L_L_int64 zr_L_int64) ?_
  rintro _ _ ⟨gm, rfl, rfl⟩
  refine Ol.p ass ?_
  refine Ol.nil ?_
  obtain ⟨VG, hVG⟩ : ∃ V, V = Value.slice (some ⟨gm, 0, none⟩) 0 0 := ⟨_, rfl⟩
  rw [← hVG]
  obtain ⟨LG, hLG⟩ : ∃ LG : List Res, LG = [row VG 143 1 0 ((madeCells (Value.slice none 0 0).cells (0 * 1)).toList.take (0 * 1))] := ⟨_, rfl⟩
  rw [← hLG]
  refine Cd.seq ?_
  refine Cd.seq ?_
  refine Cd.region ?_
  refine Ol.p asi ?_
  refine Ol.nil ?_
  refine Cd.block ?_
  refine Cd.loop (fun m σ L => Has σ [(0, .slice none 0 0), (5, VG), (6, .int .i64 0)] ∧ LG = L) (n := 0) ⟨⟨rfl, rfl, rfl, trivial⟩, rfl⟩ ?_
  rintro _ σ L ⟨hs, rfl⟩
  refine Cd.has hs ?_
  clear hs
  refine Cd.seq ?_
  refine Cd.seq ?_
  refine Cd.region ?_
  refine Ol.p mvi ?_
  refine Ol.p mvs ?_
  refine Ol.p (lens sl_L_L_int64) ?_
  refine Ol.p lsi ?_
  refine Ol.nil ?_
  refine Cd.cond rfl (fun h => absurd h (by decide)) (fun _ => ?_)
  refine Cd.exit (id := 4) ?_
  refine Cd.seq ?_
  refine Cd.seq ?_
  refine Cd.region ?_
  refine Ol.p asi ?_
  refine Ol.nil ?_
  refine Cd.block ?_
  refine Cd.loop (fun m σ L => Has σ [(0, .slice none 0 0), (5, VG), (9, .int .i64 0)] ∧ LG = L) (n := 0) ⟨⟨rfl, rfl, rfl, trivial⟩, rfl⟩ ?_
  rintro _ σ L ⟨hs, rfl⟩
  refine Cd.has hs ?_
  clear hs
  refine Cd.seq ?_
  refine Cd.seq ?_
  refine Cd.region ?_
  refine Ol.p mvi ?_
  refine Ol.p mvs ?_
  refine Ol.p (lens sl_L_L_int64) ?_
  refine Ol.p lsi ?_
  refine Ol.nil ?_
  refine Cd.cond rfl (fun h => absurd h (by decide)) (fun _ => ?_)
  refine Cd.exit (id := 8) ?_
  refine Cd.seq ?_
  refine Cd.seq ?_
  refine Cd.region ?_
  refine Ol.p asi ?_
  refine Ol.nil ?_
  refine Cd.block ?_
  refine Cd.loop (fun m σ L => Has σ [(0, .slice none 0 0), (5, VG), (11, .int .i64 0)] ∧ LG = L) (n := 0) ⟨⟨rfl, rfl, rfl, trivial⟩, rfl⟩ ?_
  rintro _ σ L ⟨hs, rfl⟩
  refine Cd.has hs ?_
  clear hs
  refine Cd.seq ?_
  refine Cd.seq ?_
  refine Cd.region ?_
  refine Ol.p mvi ?_
  refine Ol.p mvs ?_
  refine Ol.p (lens sl_L_L_int64) ?_
  refine Ol.p lsi ?_
  refine Ol.nil ?_
  refine Cd.cond rfl (fun h => absurd h (by decide)) (fun _ => ?_)
  refine Cd.exit (id := 12) ?_
  refine Cd.seq ?_
  refine Cd.seq ?_
  refine Cd.region ?_
  refine Ol.p asi ?_
  refine Ol.nil ?_
  refine Cd.block ?_
  refine Cd.loop (fun m σ L => Has σ [(0, .slice none 0 0), (5, VG), (14, .int .i64 0)] ∧ LG = L) (n := 0) ⟨⟨rfl, rfl, rfl, trivial⟩, rfl⟩ ?_
  rintro _ σ L ⟨hs, rfl⟩
  refine Cd.has hs ?_
  clear hs
  refine Cd.seq ?_
  refine Cd.seq ?_
  refine Cd.region ?_
  refine Ol.p mvi ?_
  refine Ol.p mvs ?_
  refine Ol.p (lens sl_L_L_int64) ?_
  refine Ol.p lsi ?_
  refine Ol.nil ?_
  refine Cd.cond rfl (fun h => absurd h (by decide)) (fun _ => ?_)
  refine Cd.exit (id := 16) ?_
  refine Cd.seq ?_
  refine Cd.region ?_
  refine Ol.p asb ?_
  refine Ol.nil ?_
  exact Cd.ret ⟨.bool true, ret1 rfl rfl, [], Keep.nil, rfl, rfl⟩
theorem kit_flatTexts_nil {w : World} : Ct Tryz.prog 93 #[.slice none 0 0] w (Is (.bool true)) := by
  refine Ct.mk Tryz.func93 rfl rfl ?_
  refine Cd.seq ?_
  refine Cd.region ?_
  refine Ol.p asb ?_
  refine Ol.nil ?_
  refine Cd.seq ?_
  refine Cd.seq ?_
  refine Cd.region ?_
  refine Ol.p asi ?_
  refine Ol.nil ?_
  refine Cd.block ?_
  refine Cd.loop (fun m σ L => Has σ [(0, .slice none 0 0), (3, .int .i64 0)] ∧ [] = L) (n := 0) ⟨⟨rfl, rfl, trivial⟩, rfl⟩ ?_
  rintro _ σ L ⟨hs, rfl⟩
  refine Cd.has hs ?_
  clear hs
  refine Cd.seq ?_
  refine Cd.seq ?_
  refine Cd.region ?_
  refine Ol.p mvi ?_
  refine Ol.p mvs ?_
  refine Ol.p (lens sl_L_L_string) ?_
  refine Ol.p lsi ?_
  refine Ol.nil ?_
  refine Cd.cond rfl (fun h => absurd h (by decide)) (fun _ => ?_)
  refine Cd.exit (id := 0) ?_
  refine Cd.seq ?_
  refine Cd.region ?_
  refine Ol.p mvs ?_
  refine Ol.p (lens sl_L_L_string) ?_
  refine Ol.x (mks (n := 0) (c := 0) sl_L_L_string zr_L_string) ?_
  rintro _ _ ⟨gm, rfl, rfl⟩
  refine Ol.p ass ?_
  refine Ol.nil ?_
  obtain ⟨VG, hVG⟩ : ∃ V, V = Value.slice (some ⟨gm, 0, none⟩) 0 0 := ⟨_, rfl⟩
  rw [← hVG]
  obtain ⟨LG, hLG⟩ : ∃ LG : List Res, LG = [row VG 144 1 0 ((madeCells (Value.slice none 0 0).cells (0 * 1)).toList.take (0 * 1))] := ⟨_, rfl⟩
  rw [← hLG]
  refine Cd.seq ?_
  refine Cd.seq ?_
  refine Cd.region ?_
  refine Ol.p asi ?_
  refine Ol.nil ?_
  refine Cd.block ?_
  refine Cd.loop (fun m σ L => Has σ [(0, .slice none 0 0), (5, VG), (6, .int .i64 0)] ∧ LG = L) (n := 0) ⟨⟨rfl, rfl, rfl, trivial⟩, rfl⟩ ?_
  rintro _ σ L ⟨hs, rfl⟩
  refine Cd.has hs ?_
  clear hs
  refine Cd.seq ?_
  refine Cd.seq ?_
  refine Cd.region ?_
  refine Ol.p mvi ?_
  refine Ol.p mvs ?_
  refine Ol.p (lens sl_L_L_string) ?_
  refine Ol.p lsi ?_
  refine Ol.nil ?_
  refine Cd.cond rfl (fun h => absurd h (by decide)) (fun _ => ?_)
  refine Cd.exit (id := 4) ?_
  refine Cd.seq ?_
  refine Cd.seq ?_
  refine Cd.region ?_
  refine Ol.p asi ?_
  refine Ol.nil ?_
  refine Cd.block ?_
  refine Cd.loop (fun m σ L => Has σ [(0, .slice none 0 0), (5, VG), (9, .int .i64 0)] ∧ LG = L) (n := 0) ⟨⟨rfl, rfl, rfl, trivial⟩, rfl⟩ ?_
  rintro _ σ L ⟨hs, rfl⟩
  refine Cd.has hs ?_
  clear hs
  refine Cd.seq ?_
  refine Cd.seq ?_
  refine Cd.region ?_
  refine Ol.p mvi ?_
  refine Ol.p mvs ?_
  refine Ol.p (lens sl_L_L_string) ?_
  refine Ol.p lsi ?_
  refine Ol.nil ?_
  refine Cd.cond rfl (fun h => absurd h (by decide)) (fun _ => ?_)
  refine Cd.exit (id := 8) ?_
  refine Cd.seq ?_
  refine Cd.seq ?_
  refine Cd.region ?_
  refine Ol.p asi ?_
  refine Ol.nil ?_
  refine Cd.block ?_
  refine Cd.loop (fun m σ L => Has σ [(0, .slice none 0 0), (5, VG), (11, .int .i64 0)] ∧ LG = L) (n := 0) ⟨⟨rfl, rfl, rfl, trivial⟩, rfl⟩ ?_
  rintro _ σ L ⟨hs, rfl⟩
  refine Cd.has hs ?_
  clear hs
  refine Cd.seq ?_
  refine Cd.seq ?_
  refine Cd.region ?_
  refine Ol.p mvi ?_
  refine Ol.p mvs ?_
  refine Ol.p (lens sl_L_L_string) ?_
  refine Ol.p lsi ?_
  refine Ol.nil ?_
  refine Cd.cond rfl (fun h => absurd h (by decide)) (fun _ => ?_)
  refine Cd.exit (id := 12) ?_
  refine Cd.seq ?_
  refine Cd.seq ?_
  refine Cd.region ?_
  refine Ol.p asi ?_
  refine Ol.nil ?_
  refine Cd.block ?_
  refine Cd.loop (fun m σ L => Has σ [(0, .slice none 0 0), (5, VG), (14, .int .i64 0)] ∧ LG = L) (n := 0) ⟨⟨rfl, rfl, rfl, trivial⟩, rfl⟩ ?_
  rintro _ σ L ⟨hs, rfl⟩
  refine Cd.has hs ?_
  clear hs
  refine Cd.seq ?_
  refine Cd.seq ?_
  refine Cd.region ?_
  refine Ol.p mvi ?_
  refine Ol.p mvs ?_
  refine Ol.p (lens sl_L_L_string) ?_
  refine Ol.p lsi ?_
  refine Ol.nil ?_
  refine Cd.cond rfl (fun h => absurd h (by decide)) (fun _ => ?_)
  refine Cd.exit (id := 16) ?_
  refine Cd.seq ?_
  refine Cd.region ?_
  refine Ol.p asb ?_
  refine Ol.nil ?_
  exact Cd.ret ⟨.bool true, ret1 rfl rfl, [], Keep.nil, rfl, rfl⟩
theorem kit_flatBytes_nil {w : World} : Ct Tryz.prog 94 #[.slice none 0 0] w (Is (.bool true)) := by
  refine Ct.mk Tryz.func94 rfl rfl ?_
  refine Cd.seq ?_
  refine Cd.region ?_
  refine Ol.p asb ?_
  refine Ol.nil ?_
  refine Cd.seq ?_
  refine Cd.seq ?_
  refine Cd.region ?_
  refine Ol.p asi ?_
  refine Ol.nil ?_
  refine Cd.block ?_
  refine Cd.loop (fun m σ L => Has σ [(0, .slice none 0 0), (3, .int .i64 0)] ∧ [] = L) (n := 0) ⟨⟨rfl, rfl, trivial⟩, rfl⟩ ?_
  rintro _ σ L ⟨hs, rfl⟩
  refine Cd.has hs ?_
  clear hs
  refine Cd.seq ?_
  refine Cd.seq ?_
  refine Cd.region ?_
  refine Ol.p mvi ?_
  refine Ol.p mvs ?_
  refine Ol.p (lens sl_L_L_uint8) ?_
  refine Ol.p lsi ?_
  refine Ol.nil ?_
  refine Cd.cond rfl (fun h => absurd h (by decide)) (fun _ => ?_)
  refine Cd.exit (id := 0) ?_
  refine Cd.seq ?_
  refine Cd.region ?_
  refine Ol.p mvs ?_
  refine Ol.p (lens sl_L_L_uint8) ?_
  refine Ol.x (mks (n := 0) (c := 0) sl_L_L_uint8 zr_L_uint8) ?_
  rintro _ _ ⟨gm, rfl, rfl⟩
  refine Ol.p ass ?_
  refine Ol.nil ?_
  obtain ⟨VG, hVG⟩ : ∃ V, V = Value.slice (some ⟨gm, 0, none⟩) 0 0 := ⟨_, rfl⟩
  rw [← hVG]
  obtain ⟨LG, hLG⟩ : ∃ LG : List Res, LG = [row VG 146 1 0 ((madeCells (Value.slice none 0 0).cells (0 * 1)).toList.take (0 * 1))] := ⟨_, rfl⟩
  rw [← hLG]
  refine Cd.seq ?_
  refine Cd.seq ?_
  refine Cd.region ?_
  refine Ol.p asi ?_
  refine Ol.nil ?_
  refine Cd.block ?_
  refine Cd.loop (fun m σ L => Has σ [(0, .slice none 0 0), (5, VG), (6, .int .i64 0)] ∧ LG = L) (n := 0) ⟨⟨rfl, rfl, rfl, trivial⟩, rfl⟩ ?_
  rintro _ σ L ⟨hs, rfl⟩
  refine Cd.has hs ?_
  clear hs
  refine Cd.seq ?_
  refine Cd.seq ?_
  refine Cd.region ?_
  refine Ol.p mvi ?_
  refine Ol.p mvs ?_
  refine Ol.p (lens sl_L_L_uint8) ?_
  refine Ol.p lsi ?_
  refine Ol.nil ?_
  refine Cd.cond rfl (fun h => absurd h (by decide)) (fun _ => ?_)
  refine Cd.exit (id := 4) ?_
  refine Cd.seq ?_
  refine Cd.seq ?_
  refine Cd.region ?_
  refine Ol.p asi ?_
  refine Ol.nil ?_
  refine Cd.block ?_
  refine Cd.loop (fun m σ L => Has σ [(0, .slice none 0 0), (5, VG), (9, .int .i64 0)] ∧ LG = L) (n := 0) ⟨⟨rfl, rfl, rfl, trivial⟩, rfl⟩ ?_
  rintro _ σ L ⟨hs, rfl⟩
  refine Cd.has hs ?_
  clear hs
  refine Cd.seq ?_
  refine Cd.seq ?_
  refine Cd.region ?_
  refine Ol.p mvi ?_
  refine Ol.p mvs ?_
  refine Ol.p (lens sl_L_L_uint8) ?_
  refine Ol.p lsi ?_
  refine Ol.nil ?_
  refine Cd.cond rfl (fun h => absurd h (by decide)) (fun _ => ?_)
  refine Cd.exit (id := 8) ?_
  refine Cd.seq ?_
  refine Cd.seq ?_
  refine Cd.region ?_
  refine Ol.p asi ?_
  refine Ol.nil ?_
  refine Cd.block ?_
  refine Cd.loop (fun m σ L => Has σ [(0, .slice none 0 0), (5, VG), (11, .int .i64 0)] ∧ LG = L) (n := 0) ⟨⟨rfl, rfl, rfl, trivial⟩, rfl⟩ ?_
  rintro _ σ L ⟨hs, rfl⟩
  refine Cd.has hs ?_
  clear hs
  refine Cd.seq ?_
  refine Cd.seq ?_
  refine Cd.region ?_
  refine Ol.p mvi ?_
  refine Ol.p mvs ?_
  refine Ol.p (lens sl_L_L_uint8) ?_
  refine Ol.p lsi ?_
  refine Ol.nil ?_
  refine Cd.cond rfl (fun h => absurd h (by decide)) (fun _ => ?_)
  refine Cd.exit (id := 12) ?_
  refine Cd.seq ?_
  refine Cd.seq ?_
  refine Cd.region ?_
  refine Ol.p asi ?_
  refine Ol.nil ?_
  refine Cd.block ?_
  refine Cd.loop (fun m σ L => Has σ [(0, .slice none 0 0), (5, VG), (14, .int .i64 0)] ∧ LG = L) (n := 0) ⟨⟨rfl, rfl, rfl, trivial⟩, rfl⟩ ?_
  rintro _ σ L ⟨hs, rfl⟩
  refine Cd.has hs ?_
  clear hs
  refine Cd.seq ?_
  refine Cd.seq ?_
  refine Cd.region ?_
  refine Ol.p mvi ?_
  refine Ol.p mvs ?_
  refine Ol.p (lens sl_L_L_uint8) ?_
  refine Ol.p lsi ?_
  refine Ol.nil ?_
  refine Cd.cond rfl (fun h => absurd h (by decide)) (fun _ => ?_)
  refine Cd.exit (id := 16) ?_
  refine Cd.seq ?_
  refine Cd.region ?_
  refine Ol.p asb ?_
  refine Ol.nil ?_
  exact Cd.ret ⟨.bool true, ret1 rfl rfl, [], Keep.nil, rfl, rfl⟩
theorem kit_flatTruths_nil {w : World} : Ct Tryz.prog 95 #[.slice none 0 0] w (Is (.bool true)) := by
  refine Ct.mk Tryz.func95 rfl rfl ?_
  refine Cd.seq ?_
  refine Cd.region ?_
  refine Ol.p asb ?_
  refine Ol.nil ?_
  refine Cd.seq ?_
  refine Cd.seq ?_
  refine Cd.region ?_
  refine Ol.p asi ?_
  refine Ol.nil ?_
  refine Cd.block ?_
  refine Cd.loop (fun m σ L => Has σ [(0, .slice none 0 0), (3, .int .i64 0)] ∧ [] = L) (n := 0) ⟨⟨rfl, rfl, trivial⟩, rfl⟩ ?_
  rintro _ σ L ⟨hs, rfl⟩
  refine Cd.has hs ?_
  clear hs
  refine Cd.seq ?_
  refine Cd.seq ?_
  refine Cd.region ?_
  refine Ol.p mvi ?_
  refine Ol.p mvs ?_
  refine Ol.p (lens sl_L_L_bool) ?_
  refine Ol.p lsi ?_
  refine Ol.nil ?_
  refine Cd.cond rfl (fun h => absurd h (by decide)) (fun _ => ?_)
  refine Cd.exit (id := 0) ?_
  refine Cd.seq ?_
  refine Cd.region ?_
  refine Ol.p mvs ?_
  refine Ol.p (lens sl_L_L_bool) ?_
  refine Ol.x (mks (n := 0) (c := 0) sl_L_L_bool zr_L_bool) ?_
  rintro _ _ ⟨gm, rfl, rfl⟩
  refine Ol.p ass ?_
  refine Ol.nil ?_
  obtain ⟨VG, hVG⟩ : ∃ V, V = Value.slice (some ⟨gm, 0, none⟩) 0 0 := ⟨_, rfl⟩
  rw [← hVG]
  obtain ⟨LG, hLG⟩ : ∃ LG : List Res, LG = [row VG 79 1 0 ((madeCells (Value.slice none 0 0).cells (0 * 1)).toList.take (0 * 1))] := ⟨_, rfl⟩
  rw [← hLG]
  refine Cd.seq ?_
  refine Cd.seq ?_
  refine Cd.region ?_
  refine Ol.p asi ?_
  refine Ol.nil ?_
  refine Cd.block ?_
  refine Cd.loop (fun m σ L => Has σ [(0, .slice none 0 0), (5, VG), (6, .int .i64 0)] ∧ LG = L) (n := 0) ⟨⟨rfl, rfl, rfl, trivial⟩, rfl⟩ ?_
  rintro _ σ L ⟨hs, rfl⟩
  refine Cd.has hs ?_
  clear hs
  refine Cd.seq ?_
  refine Cd.seq ?_
  refine Cd.region ?_
  refine Ol.p mvi ?_
  refine Ol.p mvs ?_
  refine Ol.p (lens sl_L_L_bool) ?_
  refine Ol.p lsi ?_
  refine Ol.nil ?_
  refine Cd.cond rfl (fun h => absurd h (by decide)) (fun _ => ?_)
  refine Cd.exit (id := 4) ?_
  refine Cd.seq ?_
  refine Cd.seq ?_
  refine Cd.region ?_
  refine Ol.p asi ?_
  refine Ol.nil ?_
  refine Cd.block ?_
  refine Cd.loop (fun m σ L => Has σ [(0, .slice none 0 0), (5, VG), (9, .int .i64 0)] ∧ LG = L) (n := 0) ⟨⟨rfl, rfl, rfl, trivial⟩, rfl⟩ ?_
  rintro _ σ L ⟨hs, rfl⟩
  refine Cd.has hs ?_
  clear hs
  refine Cd.seq ?_
  refine Cd.seq ?_
  refine Cd.region ?_
  refine Ol.p mvi ?_
  refine Ol.p mvs ?_
  refine Ol.p (lens sl_L_L_bool) ?_
  refine Ol.p lsi ?_
  refine Ol.nil ?_
  refine Cd.cond rfl (fun h => absurd h (by decide)) (fun _ => ?_)
  refine Cd.exit (id := 8) ?_
  refine Cd.seq ?_
  refine Cd.seq ?_
  refine Cd.region ?_
  refine Ol.p asi ?_
  refine Ol.nil ?_
  refine Cd.block ?_
  refine Cd.loop (fun m σ L => Has σ [(0, .slice none 0 0), (5, VG), (11, .int .i64 0)] ∧ LG = L) (n := 0) ⟨⟨rfl, rfl, rfl, trivial⟩, rfl⟩ ?_
  rintro _ σ L ⟨hs, rfl⟩
  refine Cd.has hs ?_
  clear hs
  refine Cd.seq ?_
  refine Cd.seq ?_
  refine Cd.region ?_
  refine Ol.p mvi ?_
  refine Ol.p mvs ?_
  refine Ol.p (lens sl_L_L_bool) ?_
  refine Ol.p lsi ?_
  refine Ol.nil ?_
  refine Cd.cond rfl (fun h => absurd h (by decide)) (fun _ => ?_)
  refine Cd.exit (id := 12) ?_
  refine Cd.seq ?_
  refine Cd.seq ?_
  refine Cd.region ?_
  refine Ol.p asi ?_
  refine Ol.nil ?_
  refine Cd.block ?_
  refine Cd.loop (fun m σ L => Has σ [(0, .slice none 0 0), (5, VG), (14, .int .i64 0)] ∧ LG = L) (n := 0) ⟨⟨rfl, rfl, rfl, trivial⟩, rfl⟩ ?_
  rintro _ σ L ⟨hs, rfl⟩
  refine Cd.has hs ?_
  clear hs
  refine Cd.seq ?_
  refine Cd.seq ?_
  refine Cd.region ?_
  refine Ol.p mvi ?_
  refine Ol.p mvs ?_
  refine Ol.p (lens sl_L_L_bool) ?_
  refine Ol.p lsi ?_
  refine Ol.nil ?_
  refine Cd.cond rfl (fun h => absurd h (by decide)) (fun _ => ?_)
  refine Cd.exit (id := 16) ?_
  refine Cd.seq ?_
  refine Cd.region ?_
  refine Ol.p asb ?_
  refine Ol.nil ?_
  exact Cd.ret ⟨.bool true, ret1 rfl rfl, [], Keep.nil, rfl, rfl⟩
theorem kit_flatRow_nil {w : World} : Ct Tryz.prog 96 #[.slice none 0 0] w (Is (.bool true)) := by
  refine Ct.mk Tryz.func96 rfl rfl ?_
  refine Cd.seq ?_
  refine Cd.region ?_
  refine Ol.p asb ?_
  refine Ol.nil ?_
  refine Cd.seq ?_
  refine Cd.seq ?_
  refine Cd.region ?_
  refine Ol.p asi ?_
  refine Ol.nil ?_
  refine Cd.block ?_
  refine Cd.loop (fun m σ L => Has σ [(0, .slice none 0 0), (3, .int .i64 0)] ∧ [] = L) (n := 0) ⟨⟨rfl, rfl, trivial⟩, rfl⟩ ?_
  rintro _ σ L ⟨hs, rfl⟩
  refine Cd.has hs ?_
  clear hs
  refine Cd.seq ?_
  refine Cd.seq ?_
  refine Cd.region ?_
  refine Ol.p mvi ?_
  refine Ol.p mvs ?_
  refine Ol.p (lens sl_L_L_api_Ins) ?_
  refine Ol.p lsi ?_
  refine Ol.nil ?_
  refine Cd.cond rfl (fun h => absurd h (by decide)) (fun _ => ?_)
  refine Cd.exit (id := 0) ?_
  refine Cd.seq ?_
  refine Cd.region ?_
  refine Ol.p mvs ?_
  refine Ol.p (lens sl_L_L_api_Ins) ?_
  refine Ol.x (mks (n := 0) (c := 0) sl_L_L_api_Ins zr_L_api_Ins) ?_
  rintro _ _ ⟨gm, rfl, rfl⟩
  refine Ol.p ass ?_
  refine Ol.nil ?_
  obtain ⟨VG, hVG⟩ : ∃ V, V = Value.slice (some ⟨gm, 0, none⟩) 0 0 := ⟨_, rfl⟩
  rw [← hVG]
  obtain ⟨LG, hLG⟩ : ∃ LG : List Res, LG = [row VG 43 1 0 ((madeCells (Value.slice none 0 0).cells (0 * 1)).toList.take (0 * 1))] := ⟨_, rfl⟩
  rw [← hLG]
  refine Cd.seq ?_
  refine Cd.seq ?_
  refine Cd.region ?_
  refine Ol.p asi ?_
  refine Ol.nil ?_
  refine Cd.block ?_
  refine Cd.loop (fun m σ L => Has σ [(0, .slice none 0 0), (5, VG), (6, .int .i64 0)] ∧ LG = L) (n := 0) ⟨⟨rfl, rfl, rfl, trivial⟩, rfl⟩ ?_
  rintro _ σ L ⟨hs, rfl⟩
  refine Cd.has hs ?_
  clear hs
  refine Cd.seq ?_
  refine Cd.seq ?_
  refine Cd.region ?_
  refine Ol.p mvi ?_
  refine Ol.p mvs ?_
  refine Ol.p (lens sl_L_L_api_Ins) ?_
  refine Ol.p lsi ?_
  refine Ol.nil ?_
  refine Cd.cond rfl (fun h => absurd h (by decide)) (fun _ => ?_)
  refine Cd.exit (id := 4) ?_
  refine Cd.seq ?_
  refine Cd.seq ?_
  refine Cd.region ?_
  refine Ol.p asi ?_
  refine Ol.nil ?_
  refine Cd.block ?_
  refine Cd.loop (fun m σ L => Has σ [(0, .slice none 0 0), (5, VG), (9, .int .i64 0)] ∧ LG = L) (n := 0) ⟨⟨rfl, rfl, rfl, trivial⟩, rfl⟩ ?_
  rintro _ σ L ⟨hs, rfl⟩
  refine Cd.has hs ?_
  clear hs
  refine Cd.seq ?_
  refine Cd.seq ?_
  refine Cd.region ?_
  refine Ol.p mvi ?_
  refine Ol.p mvs ?_
  refine Ol.p (lens sl_L_L_api_Ins) ?_
  refine Ol.p lsi ?_
  refine Ol.nil ?_
  refine Cd.cond rfl (fun h => absurd h (by decide)) (fun _ => ?_)
  refine Cd.exit (id := 8) ?_
  refine Cd.seq ?_
  refine Cd.seq ?_
  refine Cd.region ?_
  refine Ol.p asi ?_
  refine Ol.nil ?_
  refine Cd.block ?_
  refine Cd.loop (fun m σ L => Has σ [(0, .slice none 0 0), (5, VG), (11, .int .i64 0)] ∧ LG = L) (n := 0) ⟨⟨rfl, rfl, rfl, trivial⟩, rfl⟩ ?_
  rintro _ σ L ⟨hs, rfl⟩
  refine Cd.has hs ?_
  clear hs
  refine Cd.seq ?_
  refine Cd.seq ?_
  refine Cd.region ?_
  refine Ol.p mvi ?_
  refine Ol.p mvs ?_
  refine Ol.p (lens sl_L_L_api_Ins) ?_
  refine Ol.p lsi ?_
  refine Ol.nil ?_
  refine Cd.cond rfl (fun h => absurd h (by decide)) (fun _ => ?_)
  refine Cd.exit (id := 12) ?_
  refine Cd.seq ?_
  refine Cd.seq ?_
  refine Cd.region ?_
  refine Ol.p asi ?_
  refine Ol.nil ?_
  refine Cd.block ?_
  refine Cd.loop (fun m σ L => Has σ [(0, .slice none 0 0), (5, VG), (14, .int .i64 0)] ∧ LG = L) (n := 0) ⟨⟨rfl, rfl, rfl, trivial⟩, rfl⟩ ?_
  rintro _ σ L ⟨hs, rfl⟩
  refine Cd.has hs ?_
  clear hs
  refine Cd.seq ?_
  refine Cd.seq ?_
  refine Cd.region ?_
  refine Ol.p mvi ?_
  refine Ol.p mvs ?_
  refine Ol.p (lens sl_L_L_api_Ins) ?_
  refine Ol.p lsi ?_
  refine Ol.nil ?_
  refine Cd.cond rfl (fun h => absurd h (by decide)) (fun _ => ?_)
  refine Cd.exit (id := 16) ?_
  refine Cd.seq ?_
  refine Cd.region ?_
  refine Ol.p asb ?_
  refine Ol.nil ?_
  exact Cd.ret ⟨.bool true, ret1 rfl rfl, [], Keep.nil, rfl, rfl⟩
theorem kit_flatBlocks_nil {w : World} : Ct Tryz.prog 97 #[.slice none 0 0] w (Is (.bool true)) := by
  refine Ct.mk Tryz.func97 rfl rfl ?_
  refine Cd.seq ?_
  refine Cd.region ?_
  refine Ol.p asb ?_
  refine Ol.nil ?_
  refine Cd.seq ?_
  refine Cd.seq ?_
  refine Cd.region ?_
  refine Ol.p asi ?_
  refine Ol.nil ?_
  refine Cd.block ?_
  refine Cd.loop (fun m σ L => Has σ [(0, .slice none 0 0), (3, .int .i64 0)] ∧ [] = L) (n := 0) ⟨⟨rfl, rfl, trivial⟩, rfl⟩ ?_
  rintro _ σ L ⟨hs, rfl⟩
  refine Cd.has hs ?_
  clear hs
  refine Cd.seq ?_
  refine Cd.seq ?_
  refine Cd.region ?_
  refine Ol.p mvi ?_
  refine Ol.p mvs ?_
  refine Ol.p (lens sl_L_L_api_Block) ?_
  refine Ol.p lsi ?_
  refine Ol.nil ?_
  refine Cd.cond rfl (fun h => absurd h (by decide)) (fun _ => ?_)
  refine Cd.exit (id := 0) ?_
  refine Cd.seq ?_
  refine Cd.region ?_
  refine Ol.p mvs ?_
  refine Ol.p (lens sl_L_L_api_Block) ?_
  refine Ol.x (mks (n := 0) (c := 0) sl_L_L_api_Block zr_L_api_Block) ?_
  rintro _ _ ⟨gm, rfl, rfl⟩
  refine Ol.p ass ?_
  refine Ol.nil ?_
  obtain ⟨VG, hVG⟩ : ∃ V, V = Value.slice (some ⟨gm, 0, none⟩) 0 0 := ⟨_, rfl⟩
  rw [← hVG]
  obtain ⟨LG, hLG⟩ : ∃ LG : List Res, LG = [row VG 23 1 0 ((madeCells (Value.slice none 0 0).cells (0 * 1)).toList.take (0 * 1))] := ⟨_, rfl⟩
  rw [← hLG]
  refine Cd.seq ?_
  refine Cd.seq ?_
  refine Cd.region ?_
  refine Ol.p asi ?_
  refine Ol.nil ?_
  refine Cd.block ?_
  refine Cd.loop (fun m σ L => Has σ [(0, .slice none 0 0), (5, VG), (6, .int .i64 0)] ∧ LG = L) (n := 0) ⟨⟨rfl, rfl, rfl, trivial⟩, rfl⟩ ?_
  rintro _ σ L ⟨hs, rfl⟩
  refine Cd.has hs ?_
  clear hs
  refine Cd.seq ?_
  refine Cd.seq ?_
  refine Cd.region ?_
  refine Ol.p mvi ?_
  refine Ol.p mvs ?_
  refine Ol.p (lens sl_L_L_api_Block) ?_
  refine Ol.p lsi ?_
  refine Ol.nil ?_
  refine Cd.cond rfl (fun h => absurd h (by decide)) (fun _ => ?_)
  refine Cd.exit (id := 4) ?_
  refine Cd.seq ?_
  refine Cd.seq ?_
  refine Cd.region ?_
  refine Ol.p asi ?_
  refine Ol.nil ?_
  refine Cd.block ?_
  refine Cd.loop (fun m σ L => Has σ [(0, .slice none 0 0), (5, VG), (9, .int .i64 0)] ∧ LG = L) (n := 0) ⟨⟨rfl, rfl, rfl, trivial⟩, rfl⟩ ?_
  rintro _ σ L ⟨hs, rfl⟩
  refine Cd.has hs ?_
  clear hs
  refine Cd.seq ?_
  refine Cd.seq ?_
  refine Cd.region ?_
  refine Ol.p mvi ?_
  refine Ol.p mvs ?_
  refine Ol.p (lens sl_L_L_api_Block) ?_
  refine Ol.p lsi ?_
  refine Ol.nil ?_
  refine Cd.cond rfl (fun h => absurd h (by decide)) (fun _ => ?_)
  refine Cd.exit (id := 8) ?_
  refine Cd.seq ?_
  refine Cd.seq ?_
  refine Cd.region ?_
  refine Ol.p asi ?_
  refine Ol.nil ?_
  refine Cd.block ?_
  refine Cd.loop (fun m σ L => Has σ [(0, .slice none 0 0), (5, VG), (11, .int .i64 0)] ∧ LG = L) (n := 0) ⟨⟨rfl, rfl, rfl, trivial⟩, rfl⟩ ?_
  rintro _ σ L ⟨hs, rfl⟩
  refine Cd.has hs ?_
  clear hs
  refine Cd.seq ?_
  refine Cd.seq ?_
  refine Cd.region ?_
  refine Ol.p mvi ?_
  refine Ol.p mvs ?_
  refine Ol.p (lens sl_L_L_api_Block) ?_
  refine Ol.p lsi ?_
  refine Ol.nil ?_
  refine Cd.cond rfl (fun h => absurd h (by decide)) (fun _ => ?_)
  refine Cd.exit (id := 12) ?_
  refine Cd.seq ?_
  refine Cd.seq ?_
  refine Cd.region ?_
  refine Ol.p asi ?_
  refine Ol.nil ?_
  refine Cd.block ?_
  refine Cd.loop (fun m σ L => Has σ [(0, .slice none 0 0), (5, VG), (14, .int .i64 0)] ∧ LG = L) (n := 0) ⟨⟨rfl, rfl, rfl, trivial⟩, rfl⟩ ?_
  rintro _ σ L ⟨hs, rfl⟩
  refine Cd.has hs ?_
  clear hs
  refine Cd.seq ?_
  refine Cd.seq ?_
  refine Cd.region ?_
  refine Ol.p mvi ?_
  refine Ol.p mvs ?_
  refine Ol.p (lens sl_L_L_api_Block) ?_
  refine Ol.p lsi ?_
  refine Ol.nil ?_
  refine Cd.cond rfl (fun h => absurd h (by decide)) (fun _ => ?_)
  refine Cd.exit (id := 16) ?_
  refine Cd.seq ?_
  refine Cd.region ?_
  refine Ol.p asb ?_
  refine Ol.nil ?_
  exact Cd.ret ⟨.bool true, ret1 rfl rfl, [], Keep.nil, rfl, rfl⟩
theorem kit_flatFuncs_nil {w : World} : Ct Tryz.prog 98 #[.slice none 0 0] w (Is (.bool true)) := by
  refine Ct.mk Tryz.func98 rfl rfl ?_
  refine Cd.seq ?_
  refine Cd.region ?_
  refine Ol.p asb ?_
  refine Ol.nil ?_
  refine Cd.seq ?_
  refine Cd.seq ?_
  refine Cd.region ?_
  refine Ol.p asi ?_
  refine Ol.nil ?_
  refine Cd.block ?_
  refine Cd.loop (fun m σ L => Has σ [(0, .slice none 0 0), (3, .int .i64 0)] ∧ [] = L) (n := 0) ⟨⟨rfl, rfl, trivial⟩, rfl⟩ ?_
  rintro _ σ L ⟨hs, rfl⟩
  refine Cd.has hs ?_
  clear hs
  refine Cd.seq ?_
  refine Cd.seq ?_
  refine Cd.region ?_
  refine Ol.p mvi ?_
  refine Ol.p mvs ?_
  refine Ol.p (lens sl_L_L_api_Func) ?_
  refine Ol.p lsi ?_
  refine Ol.nil ?_
  refine Cd.cond rfl (fun h => absurd h (by decide)) (fun _ => ?_)
  refine Cd.exit (id := 0) ?_
  refine Cd.seq ?_
  refine Cd.region ?_
  refine Ol.p mvs ?_
  refine Ol.p (lens sl_L_L_api_Func) ?_
  refine Ol.x (mks (n := 0) (c := 0) sl_L_L_api_Func zr_L_api_Func) ?_
  rintro _ _ ⟨gm, rfl, rfl⟩
  refine Ol.p ass ?_
  refine Ol.nil ?_
  obtain ⟨VG, hVG⟩ : ∃ V, V = Value.slice (some ⟨gm, 0, none⟩) 0 0 := ⟨_, rfl⟩
  rw [← hVG]
  obtain ⟨LG, hLG⟩ : ∃ LG : List Res, LG = [row VG 150 1 0 ((madeCells (Value.slice none 0 0).cells (0 * 1)).toList.take (0 * 1))] := ⟨_, rfl⟩
  rw [← hLG]
  refine Cd.seq ?_
  refine Cd.seq ?_
  refine Cd.region ?_
  refine Ol.p asi ?_
  refine Ol.nil ?_
  refine Cd.block ?_
  refine Cd.loop (fun m σ L => Has σ [(0, .slice none 0 0), (5, VG), (6, .int .i64 0)] ∧ LG = L) (n := 0) ⟨⟨rfl, rfl, rfl, trivial⟩, rfl⟩ ?_
  rintro _ σ L ⟨hs, rfl⟩
  refine Cd.has hs ?_
  clear hs
  refine Cd.seq ?_
  refine Cd.seq ?_
  refine Cd.region ?_
  refine Ol.p mvi ?_
  refine Ol.p mvs ?_
  refine Ol.p (lens sl_L_L_api_Func) ?_
  refine Ol.p lsi ?_
  refine Ol.nil ?_
  refine Cd.cond rfl (fun h => absurd h (by decide)) (fun _ => ?_)
  refine Cd.exit (id := 4) ?_
  refine Cd.seq ?_
  refine Cd.seq ?_
  refine Cd.region ?_
  refine Ol.p asi ?_
  refine Ol.nil ?_
  refine Cd.block ?_
  refine Cd.loop (fun m σ L => Has σ [(0, .slice none 0 0), (5, VG), (9, .int .i64 0)] ∧ LG = L) (n := 0) ⟨⟨rfl, rfl, rfl, trivial⟩, rfl⟩ ?_
  rintro _ σ L ⟨hs, rfl⟩
  refine Cd.has hs ?_
  clear hs
  refine Cd.seq ?_
  refine Cd.seq ?_
  refine Cd.region ?_
  refine Ol.p mvi ?_
  refine Ol.p mvs ?_
  refine Ol.p (lens sl_L_L_api_Func) ?_
  refine Ol.p lsi ?_
  refine Ol.nil ?_
  refine Cd.cond rfl (fun h => absurd h (by decide)) (fun _ => ?_)
  refine Cd.exit (id := 8) ?_
  refine Cd.seq ?_
  refine Cd.seq ?_
  refine Cd.region ?_
  refine Ol.p asi ?_
  refine Ol.nil ?_
  refine Cd.block ?_
  refine Cd.loop (fun m σ L => Has σ [(0, .slice none 0 0), (5, VG), (11, .int .i64 0)] ∧ LG = L) (n := 0) ⟨⟨rfl, rfl, rfl, trivial⟩, rfl⟩ ?_
  rintro _ σ L ⟨hs, rfl⟩
  refine Cd.has hs ?_
  clear hs
  refine Cd.seq ?_
  refine Cd.seq ?_
  refine Cd.region ?_
  refine Ol.p mvi ?_
  refine Ol.p mvs ?_
  refine Ol.p (lens sl_L_L_api_Func) ?_
  refine Ol.p lsi ?_
  refine Ol.nil ?_
  refine Cd.cond rfl (fun h => absurd h (by decide)) (fun _ => ?_)
  refine Cd.exit (id := 12) ?_
  refine Cd.seq ?_
  refine Cd.seq ?_
  refine Cd.region ?_
  refine Ol.p asi ?_
  refine Ol.nil ?_
  refine Cd.block ?_
  refine Cd.loop (fun m σ L => Has σ [(0, .slice none 0 0), (5, VG), (14, .int .i64 0)] ∧ LG = L) (n := 0) ⟨⟨rfl, rfl, rfl, trivial⟩, rfl⟩ ?_
  rintro _ σ L ⟨hs, rfl⟩
  refine Cd.has hs ?_
  clear hs
  refine Cd.seq ?_
  refine Cd.seq ?_
  refine Cd.region ?_
  refine Ol.p mvi ?_
  refine Ol.p mvs ?_
  refine Ol.p (lens sl_L_L_api_Func) ?_
  refine Ol.p lsi ?_
  refine Ol.nil ?_
  refine Cd.cond rfl (fun h => absurd h (by decide)) (fun _ => ?_)
  refine Cd.exit (id := 16) ?_
  refine Cd.seq ?_
  refine Cd.region ?_
  refine Ol.p asb ?_
  refine Ol.nil ?_
  exact Cd.ret ⟨.bool true, ret1 rfl rfl, [], Keep.nil, rfl, rfl⟩
theorem kit_flatTargets_nil {w : World} : Ct Tryz.prog 99 #[.slice none 0 0] w (Is (.bool true)) := by
  refine Ct.mk Tryz.func99 rfl rfl ?_
  refine Cd.seq ?_
  refine Cd.region ?_
  refine Ol.p asb ?_
  refine Ol.nil ?_
  refine Cd.seq ?_
  refine Cd.seq ?_
  refine Cd.region ?_
  refine Ol.p asi ?_
  refine Ol.nil ?_
  refine Cd.block ?_
  refine Cd.loop (fun m σ L => Has σ [(0, .slice none 0 0), (3, .int .i64 0)] ∧ [] = L) (n := 0) ⟨⟨rfl, rfl, trivial⟩, rfl⟩ ?_
  rintro _ σ L ⟨hs, rfl⟩
  refine Cd.has hs ?_
  clear hs
  refine Cd.seq ?_
  refine Cd.seq ?_
  refine Cd.region ?_
  refine Ol.p mvi ?_
  refine Ol.p mvs ?_
  refine Ol.p (lens sl_L_L_api_Target) ?_
  refine Ol.p lsi ?_
  refine Ol.nil ?_
  refine Cd.cond rfl (fun h => absurd h (by decide)) (fun _ => ?_)
  refine Cd.exit (id := 0) ?_
  refine Cd.seq ?_
  refine Cd.region ?_
  refine Ol.p mvs ?_
  refine Ol.p (lens sl_L_L_api_Target) ?_
  refine Ol.x (mks (n := 0) (c := 0) sl_L_L_api_Target zr_L_api_Target) ?_
  rintro _ _ ⟨gm, rfl, rfl⟩
  refine Ol.p ass ?_
  refine Ol.nil ?_
  obtain ⟨VG, hVG⟩ : ∃ V, V = Value.slice (some ⟨gm, 0, none⟩) 0 0 := ⟨_, rfl⟩
  rw [← hVG]
  obtain ⟨LG, hLG⟩ : ∃ LG : List Res, LG = [row VG 152 1 0 ((madeCells (Value.slice none 0 0).cells (0 * 1)).toList.take (0 * 1))] := ⟨_, rfl⟩
  rw [← hLG]
  refine Cd.seq ?_
  refine Cd.seq ?_
  refine Cd.region ?_
  refine Ol.p asi ?_
  refine Ol.nil ?_
  refine Cd.block ?_
  refine Cd.loop (fun m σ L => Has σ [(0, .slice none 0 0), (5, VG), (6, .int .i64 0)] ∧ LG = L) (n := 0) ⟨⟨rfl, rfl, rfl, trivial⟩, rfl⟩ ?_
  rintro _ σ L ⟨hs, rfl⟩
  refine Cd.has hs ?_
  clear hs
  refine Cd.seq ?_
  refine Cd.seq ?_
  refine Cd.region ?_
  refine Ol.p mvi ?_
  refine Ol.p mvs ?_
  refine Ol.p (lens sl_L_L_api_Target) ?_
  refine Ol.p lsi ?_
  refine Ol.nil ?_
  refine Cd.cond rfl (fun h => absurd h (by decide)) (fun _ => ?_)
  refine Cd.exit (id := 4) ?_
  refine Cd.seq ?_
  refine Cd.seq ?_
  refine Cd.region ?_
  refine Ol.p asi ?_
  refine Ol.nil ?_
  refine Cd.block ?_
  refine Cd.loop (fun m σ L => Has σ [(0, .slice none 0 0), (5, VG), (9, .int .i64 0)] ∧ LG = L) (n := 0) ⟨⟨rfl, rfl, rfl, trivial⟩, rfl⟩ ?_
  rintro _ σ L ⟨hs, rfl⟩
  refine Cd.has hs ?_
  clear hs
  refine Cd.seq ?_
  refine Cd.seq ?_
  refine Cd.region ?_
  refine Ol.p mvi ?_
  refine Ol.p mvs ?_
  refine Ol.p (lens sl_L_L_api_Target) ?_
  refine Ol.p lsi ?_
  refine Ol.nil ?_
  refine Cd.cond rfl (fun h => absurd h (by decide)) (fun _ => ?_)
  refine Cd.exit (id := 8) ?_
  refine Cd.seq ?_
  refine Cd.seq ?_
  refine Cd.region ?_
  refine Ol.p asi ?_
  refine Ol.nil ?_
  refine Cd.block ?_
  refine Cd.loop (fun m σ L => Has σ [(0, .slice none 0 0), (5, VG), (11, .int .i64 0)] ∧ LG = L) (n := 0) ⟨⟨rfl, rfl, rfl, trivial⟩, rfl⟩ ?_
  rintro _ σ L ⟨hs, rfl⟩
  refine Cd.has hs ?_
  clear hs
  refine Cd.seq ?_
  refine Cd.seq ?_
  refine Cd.region ?_
  refine Ol.p mvi ?_
  refine Ol.p mvs ?_
  refine Ol.p (lens sl_L_L_api_Target) ?_
  refine Ol.p lsi ?_
  refine Ol.nil ?_
  refine Cd.cond rfl (fun h => absurd h (by decide)) (fun _ => ?_)
  refine Cd.exit (id := 12) ?_
  refine Cd.seq ?_
  refine Cd.seq ?_
  refine Cd.region ?_
  refine Ol.p asi ?_
  refine Ol.nil ?_
  refine Cd.block ?_
  refine Cd.loop (fun m σ L => Has σ [(0, .slice none 0 0), (5, VG), (14, .int .i64 0)] ∧ LG = L) (n := 0) ⟨⟨rfl, rfl, rfl, trivial⟩, rfl⟩ ?_
  rintro _ σ L ⟨hs, rfl⟩
  refine Cd.has hs ?_
  clear hs
  refine Cd.seq ?_
  refine Cd.seq ?_
  refine Cd.region ?_
  refine Ol.p mvi ?_
  refine Ol.p mvs ?_
  refine Ol.p (lens sl_L_L_api_Target) ?_
  refine Ol.p lsi ?_
  refine Ol.nil ?_
  refine Cd.cond rfl (fun h => absurd h (by decide)) (fun _ => ?_)
  refine Cd.exit (id := 16) ?_
  refine Cd.seq ?_
  refine Cd.region ?_
  refine Ol.p asb ?_
  refine Ol.nil ?_
  exact Cd.ret ⟨.bool true, ret1 rfl rfl, [], Keep.nil, rfl, rfl⟩
theorem kit_flatMachines_nil {w : World} : Ct Tryz.prog 100 #[.slice none 0 0] w (Is (.bool true)) := by
  refine Ct.mk Tryz.func100 rfl rfl ?_
  refine Cd.seq ?_
  refine Cd.region ?_
  refine Ol.p asb ?_
  refine Ol.nil ?_
  refine Cd.seq ?_
  refine Cd.seq ?_
  refine Cd.region ?_
  refine Ol.p asi ?_
  refine Ol.nil ?_
  refine Cd.block ?_
  refine Cd.loop (fun m σ L => Has σ [(0, .slice none 0 0), (3, .int .i64 0)] ∧ [] = L) (n := 0) ⟨⟨rfl, rfl, trivial⟩, rfl⟩ ?_
  rintro _ σ L ⟨hs, rfl⟩
  refine Cd.has hs ?_
  clear hs
  refine Cd.seq ?_
  refine Cd.seq ?_
  refine Cd.region ?_
  refine Ol.p mvi ?_
  refine Ol.p mvs ?_
  refine Ol.p (lens sl_L_L_api_Machine) ?_
  refine Ol.p lsi ?_
  refine Ol.nil ?_
  refine Cd.cond rfl (fun h => absurd h (by decide)) (fun _ => ?_)
  refine Cd.exit (id := 0) ?_
  refine Cd.seq ?_
  refine Cd.region ?_
  refine Ol.p mvs ?_
  refine Ol.p (lens sl_L_L_api_Machine) ?_
  refine Ol.x (mks (n := 0) (c := 0) sl_L_L_api_Machine zr_L_api_Machine) ?_
  rintro _ _ ⟨gm, rfl, rfl⟩
  refine Ol.p ass ?_
  refine Ol.nil ?_
  obtain ⟨VG, hVG⟩ : ∃ V, V = Value.slice (some ⟨gm, 0, none⟩) 0 0 := ⟨_, rfl⟩
  rw [← hVG]
  obtain ⟨LG, hLG⟩ : ∃ LG : List Res, LG = [row VG 157 1 0 ((madeCells (Value.slice none 0 0).cells (0 * 1)).toList.take (0 * 1))] := ⟨_, rfl⟩
  rw [← hLG]
  refine Cd.seq ?_
  refine Cd.seq ?_
  refine Cd.region ?_
  refine Ol.p asi ?_
  refine Ol.nil ?_
  refine Cd.block ?_
  refine Cd.loop (fun m σ L => Has σ [(0, .slice none 0 0), (5, VG), (6, .int .i64 0)] ∧ LG = L) (n := 0) ⟨⟨rfl, rfl, rfl, trivial⟩, rfl⟩ ?_
  rintro _ σ L ⟨hs, rfl⟩
  refine Cd.has hs ?_
  clear hs
  refine Cd.seq ?_
  refine Cd.seq ?_
  refine Cd.region ?_
  refine Ol.p mvi ?_
  refine Ol.p mvs ?_
  refine Ol.p (lens sl_L_L_api_Machine) ?_
  refine Ol.p lsi ?_
  refine Ol.nil ?_
  refine Cd.cond rfl (fun h => absurd h (by decide)) (fun _ => ?_)
  refine Cd.exit (id := 4) ?_
  refine Cd.seq ?_
  refine Cd.seq ?_
  refine Cd.region ?_
  refine Ol.p asi ?_
  refine Ol.nil ?_
  refine Cd.block ?_
  refine Cd.loop (fun m σ L => Has σ [(0, .slice none 0 0), (5, VG), (9, .int .i64 0)] ∧ LG = L) (n := 0) ⟨⟨rfl, rfl, rfl, trivial⟩, rfl⟩ ?_
  rintro _ σ L ⟨hs, rfl⟩
  refine Cd.has hs ?_
  clear hs
  refine Cd.seq ?_
  refine Cd.seq ?_
  refine Cd.region ?_
  refine Ol.p mvi ?_
  refine Ol.p mvs ?_
  refine Ol.p (lens sl_L_L_api_Machine) ?_
  refine Ol.p lsi ?_
  refine Ol.nil ?_
  refine Cd.cond rfl (fun h => absurd h (by decide)) (fun _ => ?_)
  refine Cd.exit (id := 8) ?_
  refine Cd.seq ?_
  refine Cd.seq ?_
  refine Cd.region ?_
  refine Ol.p asi ?_
  refine Ol.nil ?_
  refine Cd.block ?_
  refine Cd.loop (fun m σ L => Has σ [(0, .slice none 0 0), (5, VG), (11, .int .i64 0)] ∧ LG = L) (n := 0) ⟨⟨rfl, rfl, rfl, trivial⟩, rfl⟩ ?_
  rintro _ σ L ⟨hs, rfl⟩
  refine Cd.has hs ?_
  clear hs
  refine Cd.seq ?_
  refine Cd.seq ?_
  refine Cd.region ?_
  refine Ol.p mvi ?_
  refine Ol.p mvs ?_
  refine Ol.p (lens sl_L_L_api_Machine) ?_
  refine Ol.p lsi ?_
  refine Ol.nil ?_
  refine Cd.cond rfl (fun h => absurd h (by decide)) (fun _ => ?_)
  refine Cd.exit (id := 12) ?_
  refine Cd.seq ?_
  refine Cd.seq ?_
  refine Cd.region ?_
  refine Ol.p asi ?_
  refine Ol.nil ?_
  refine Cd.block ?_
  refine Cd.loop (fun m σ L => Has σ [(0, .slice none 0 0), (5, VG), (14, .int .i64 0)] ∧ LG = L) (n := 0) ⟨⟨rfl, rfl, rfl, trivial⟩, rfl⟩ ?_
  rintro _ σ L ⟨hs, rfl⟩
  refine Cd.has hs ?_
  clear hs
  refine Cd.seq ?_
  refine Cd.seq ?_
  refine Cd.region ?_
  refine Ol.p mvi ?_
  refine Ol.p mvs ?_
  refine Ol.p (lens sl_L_L_api_Machine) ?_
  refine Ol.p lsi ?_
  refine Ol.nil ?_
  refine Cd.cond rfl (fun h => absurd h (by decide)) (fun _ => ?_)
  refine Cd.exit (id := 16) ?_
  refine Cd.seq ?_
  refine Cd.region ?_
  refine Ol.p asb ?_
  refine Ol.nil ?_
  exact Cd.ret ⟨.bool true, ret1 rfl rfl, [], Keep.nil, rfl, rfl⟩
theorem kit_flatLocs_nil {w : World} : Ct Tryz.prog 101 #[.slice none 0 0] w (Is (.bool true)) := by
  refine Ct.mk Tryz.func101 rfl rfl ?_
  refine Cd.seq ?_
  refine Cd.region ?_
  refine Ol.p asb ?_
  refine Ol.nil ?_
  refine Cd.seq ?_
  refine Cd.seq ?_
  refine Cd.region ?_
  refine Ol.p asi ?_
  refine Ol.nil ?_
  refine Cd.block ?_
  refine Cd.loop (fun m σ L => Has σ [(0, .slice none 0 0), (3, .int .i64 0)] ∧ [] = L) (n := 0) ⟨⟨rfl, rfl, trivial⟩, rfl⟩ ?_
  rintro _ σ L ⟨hs, rfl⟩
  refine Cd.has hs ?_
  clear hs
  refine Cd.seq ?_
  refine Cd.seq ?_
  refine Cd.region ?_
  refine Ol.p mvi ?_
  refine Ol.p mvs ?_
  refine Ol.p (lens sl_L_L_api_Loc) ?_
  refine Ol.p lsi ?_
  refine Ol.nil ?_
  refine Cd.cond rfl (fun h => absurd h (by decide)) (fun _ => ?_)
  refine Cd.exit (id := 0) ?_
  refine Cd.seq ?_
  refine Cd.region ?_
  refine Ol.p mvs ?_
  refine Ol.p (lens sl_L_L_api_Loc) ?_
  refine Ol.x (mks (n := 0) (c := 0) sl_L_L_api_Loc zr_L_api_Loc) ?_
  rintro _ _ ⟨gm, rfl, rfl⟩
  refine Ol.p ass ?_
  refine Ol.nil ?_
  obtain ⟨VG, hVG⟩ : ∃ V, V = Value.slice (some ⟨gm, 0, none⟩) 0 0 := ⟨_, rfl⟩
  rw [← hVG]
  obtain ⟨LG, hLG⟩ : ∃ LG : List Res, LG = [row VG 162 1 0 ((madeCells (Value.slice none 0 0).cells (0 * 1)).toList.take (0 * 1))] := ⟨_, rfl⟩
  rw [← hLG]
  refine Cd.seq ?_
  refine Cd.seq ?_
  refine Cd.region ?_
  refine Ol.p asi ?_
  refine Ol.nil ?_
  refine Cd.block ?_
  refine Cd.loop (fun m σ L => Has σ [(0, .slice none 0 0), (5, VG), (6, .int .i64 0)] ∧ LG = L) (n := 0) ⟨⟨rfl, rfl, rfl, trivial⟩, rfl⟩ ?_
  rintro _ σ L ⟨hs, rfl⟩
  refine Cd.has hs ?_
  clear hs
  refine Cd.seq ?_
  refine Cd.seq ?_
  refine Cd.region ?_
  refine Ol.p mvi ?_
  refine Ol.p mvs ?_
  refine Ol.p (lens sl_L_L_api_Loc) ?_
  refine Ol.p lsi ?_
  refine Ol.nil ?_
  refine Cd.cond rfl (fun h => absurd h (by decide)) (fun _ => ?_)
  refine Cd.exit (id := 4) ?_
  refine Cd.seq ?_
  refine Cd.seq ?_
  refine Cd.region ?_
  refine Ol.p asi ?_
  refine Ol.nil ?_
  refine Cd.block ?_
  refine Cd.loop (fun m σ L => Has σ [(0, .slice none 0 0), (5, VG), (9, .int .i64 0)] ∧ LG = L) (n := 0) ⟨⟨rfl, rfl, rfl, trivial⟩, rfl⟩ ?_
  rintro _ σ L ⟨hs, rfl⟩
  refine Cd.has hs ?_
  clear hs
  refine Cd.seq ?_
  refine Cd.seq ?_
  refine Cd.region ?_
  refine Ol.p mvi ?_
  refine Ol.p mvs ?_
  refine Ol.p (lens sl_L_L_api_Loc) ?_
  refine Ol.p lsi ?_
  refine Ol.nil ?_
  refine Cd.cond rfl (fun h => absurd h (by decide)) (fun _ => ?_)
  refine Cd.exit (id := 8) ?_
  refine Cd.seq ?_
  refine Cd.seq ?_
  refine Cd.region ?_
  refine Ol.p asi ?_
  refine Ol.nil ?_
  refine Cd.block ?_
  refine Cd.loop (fun m σ L => Has σ [(0, .slice none 0 0), (5, VG), (11, .int .i64 0)] ∧ LG = L) (n := 0) ⟨⟨rfl, rfl, rfl, trivial⟩, rfl⟩ ?_
  rintro _ σ L ⟨hs, rfl⟩
  refine Cd.has hs ?_
  clear hs
  refine Cd.seq ?_
  refine Cd.seq ?_
  refine Cd.region ?_
  refine Ol.p mvi ?_
  refine Ol.p mvs ?_
  refine Ol.p (lens sl_L_L_api_Loc) ?_
  refine Ol.p lsi ?_
  refine Ol.nil ?_
  refine Cd.cond rfl (fun h => absurd h (by decide)) (fun _ => ?_)
  refine Cd.exit (id := 12) ?_
  refine Cd.seq ?_
  refine Cd.seq ?_
  refine Cd.region ?_
  refine Ol.p asi ?_
  refine Ol.nil ?_
  refine Cd.block ?_
  refine Cd.loop (fun m σ L => Has σ [(0, .slice none 0 0), (5, VG), (14, .int .i64 0)] ∧ LG = L) (n := 0) ⟨⟨rfl, rfl, rfl, trivial⟩, rfl⟩ ?_
  rintro _ σ L ⟨hs, rfl⟩
  refine Cd.has hs ?_
  clear hs
  refine Cd.seq ?_
  refine Cd.seq ?_
  refine Cd.region ?_
  refine Ol.p mvi ?_
  refine Ol.p mvs ?_
  refine Ol.p (lens sl_L_L_api_Loc) ?_
  refine Ol.p lsi ?_
  refine Ol.nil ?_
  refine Cd.cond rfl (fun h => absurd h (by decide)) (fun _ => ?_)
  refine Cd.exit (id := 16) ?_
  refine Cd.seq ?_
  refine Cd.region ?_
  refine Ol.p asb ?_
  refine Ol.nil ?_
  exact Cd.ret ⟨.bool true, ret1 rfl rfl, [], Keep.nil, rfl, rfl⟩
theorem kit_flatFacts_nil {w : World} : Ct Tryz.prog 102 #[.slice none 0 0] w (Is (.bool true)) := by
  refine Ct.mk Tryz.func102 rfl rfl ?_
  refine Cd.seq ?_
  refine Cd.region ?_
  refine Ol.p asb ?_
  refine Ol.nil ?_
  refine Cd.seq ?_
  refine Cd.seq ?_
  refine Cd.region ?_
  refine Ol.p asi ?_
  refine Ol.nil ?_
  refine Cd.block ?_
  refine Cd.loop (fun m σ L => Has σ [(0, .slice none 0 0), (3, .int .i64 0)] ∧ [] = L) (n := 0) ⟨⟨rfl, rfl, trivial⟩, rfl⟩ ?_
  rintro _ σ L ⟨hs, rfl⟩
  refine Cd.has hs ?_
  clear hs
  refine Cd.seq ?_
  refine Cd.seq ?_
  refine Cd.region ?_
  refine Ol.p mvi ?_
  refine Ol.p mvs ?_
  refine Ol.p (lens sl_L_L_api_Fact) ?_
  refine Ol.p lsi ?_
  refine Ol.nil ?_
  refine Cd.cond rfl (fun h => absurd h (by decide)) (fun _ => ?_)
  refine Cd.exit (id := 0) ?_
  refine Cd.seq ?_
  refine Cd.region ?_
  refine Ol.p mvs ?_
  refine Ol.p (lens sl_L_L_api_Fact) ?_
  refine Ol.x (mks (n := 0) (c := 0) sl_L_L_api_Fact zr_L_api_Fact) ?_
  rintro _ _ ⟨gm, rfl, rfl⟩
  refine Ol.p ass ?_
  refine Ol.nil ?_
  obtain ⟨VG, hVG⟩ : ∃ V, V = Value.slice (some ⟨gm, 0, none⟩) 0 0 := ⟨_, rfl⟩
  rw [← hVG]
  obtain ⟨LG, hLG⟩ : ∃ LG : List Res, LG = [row VG 166 1 0 ((madeCells (Value.slice none 0 0).cells (0 * 1)).toList.take (0 * 1))] := ⟨_, rfl⟩
  rw [← hLG]
  refine Cd.seq ?_
  refine Cd.seq ?_
  refine Cd.region ?_
  refine Ol.p asi ?_
  refine Ol.nil ?_
  refine Cd.block ?_
  refine Cd.loop (fun m σ L => Has σ [(0, .slice none 0 0), (5, VG), (6, .int .i64 0)] ∧ LG = L) (n := 0) ⟨⟨rfl, rfl, rfl, trivial⟩, rfl⟩ ?_
  rintro _ σ L ⟨hs, rfl⟩
  refine Cd.has hs ?_
  clear hs
  refine Cd.seq ?_
  refine Cd.seq ?_
  refine Cd.region ?_
  refine Ol.p mvi ?_
  refine Ol.p mvs ?_
  refine Ol.p (lens sl_L_L_api_Fact) ?_
  refine Ol.p lsi ?_
  refine Ol.nil ?_
  refine Cd.cond rfl (fun h => absurd h (by decide)) (fun _ => ?_)
  refine Cd.exit (id := 4) ?_
  refine Cd.seq ?_
  refine Cd.seq ?_
  refine Cd.region ?_
  refine Ol.p asi ?_
  refine Ol.nil ?_
  refine Cd.block ?_
  refine Cd.loop (fun m σ L => Has σ [(0, .slice none 0 0), (5, VG), (9, .int .i64 0)] ∧ LG = L) (n := 0) ⟨⟨rfl, rfl, rfl, trivial⟩, rfl⟩ ?_
  rintro _ σ L ⟨hs, rfl⟩
  refine Cd.has hs ?_
  clear hs
  refine Cd.seq ?_
  refine Cd.seq ?_
  refine Cd.region ?_
  refine Ol.p mvi ?_
  refine Ol.p mvs ?_
  refine Ol.p (lens sl_L_L_api_Fact) ?_
  refine Ol.p lsi ?_
  refine Ol.nil ?_
  refine Cd.cond rfl (fun h => absurd h (by decide)) (fun _ => ?_)
  refine Cd.exit (id := 8) ?_
  refine Cd.seq ?_
  refine Cd.seq ?_
  refine Cd.region ?_
  refine Ol.p asi ?_
  refine Ol.nil ?_
  refine Cd.block ?_
  refine Cd.loop (fun m σ L => Has σ [(0, .slice none 0 0), (5, VG), (11, .int .i64 0)] ∧ LG = L) (n := 0) ⟨⟨rfl, rfl, rfl, trivial⟩, rfl⟩ ?_
  rintro _ σ L ⟨hs, rfl⟩
  refine Cd.has hs ?_
  clear hs
  refine Cd.seq ?_
  refine Cd.seq ?_
  refine Cd.region ?_
  refine Ol.p mvi ?_
  refine Ol.p mvs ?_
  refine Ol.p (lens sl_L_L_api_Fact) ?_
  refine Ol.p lsi ?_
  refine Ol.nil ?_
  refine Cd.cond rfl (fun h => absurd h (by decide)) (fun _ => ?_)
  refine Cd.exit (id := 12) ?_
  refine Cd.seq ?_
  refine Cd.seq ?_
  refine Cd.region ?_
  refine Ol.p asi ?_
  refine Ol.nil ?_
  refine Cd.block ?_
  refine Cd.loop (fun m σ L => Has σ [(0, .slice none 0 0), (5, VG), (14, .int .i64 0)] ∧ LG = L) (n := 0) ⟨⟨rfl, rfl, rfl, trivial⟩, rfl⟩ ?_
  rintro _ σ L ⟨hs, rfl⟩
  refine Cd.has hs ?_
  clear hs
  refine Cd.seq ?_
  refine Cd.seq ?_
  refine Cd.region ?_
  refine Ol.p mvi ?_
  refine Ol.p mvs ?_
  refine Ol.p (lens sl_L_L_api_Fact) ?_
  refine Ol.p lsi ?_
  refine Ol.nil ?_
  refine Cd.cond rfl (fun h => absurd h (by decide)) (fun _ => ?_)
  refine Cd.exit (id := 16) ?_
  refine Cd.seq ?_
  refine Cd.region ?_
  refine Ol.p asb ?_
  refine Ol.nil ?_
  exact Cd.ret ⟨.bool true, ret1 rfl rfl, [], Keep.nil, rfl, rfl⟩
theorem kit_flatEdges_nil {w : World} : Ct Tryz.prog 103 #[.slice none 0 0] w (Is (.bool true)) := by
  refine Ct.mk Tryz.func103 rfl rfl ?_
  refine Cd.seq ?_
  refine Cd.region ?_
  refine Ol.p asb ?_
  refine Ol.nil ?_
  refine Cd.seq ?_
  refine Cd.seq ?_
  refine Cd.region ?_
  refine Ol.p asi ?_
  refine Ol.nil ?_
  refine Cd.block ?_
  refine Cd.loop (fun m σ L => Has σ [(0, .slice none 0 0), (3, .int .i64 0)] ∧ [] = L) (n := 0) ⟨⟨rfl, rfl, trivial⟩, rfl⟩ ?_
  rintro _ σ L ⟨hs, rfl⟩
  refine Cd.has hs ?_
  clear hs
  refine Cd.seq ?_
  refine Cd.seq ?_
  refine Cd.region ?_
  refine Ol.p mvi ?_
  refine Ol.p mvs ?_
  refine Ol.p (lens sl_L_L_api_Edge) ?_
  refine Ol.p lsi ?_
  refine Ol.nil ?_
  refine Cd.cond rfl (fun h => absurd h (by decide)) (fun _ => ?_)
  refine Cd.exit (id := 0) ?_
  refine Cd.seq ?_
  refine Cd.region ?_
  refine Ol.p mvs ?_
  refine Ol.p (lens sl_L_L_api_Edge) ?_
  refine Ol.x (mks (n := 0) (c := 0) sl_L_L_api_Edge zr_L_api_Edge) ?_
  rintro _ _ ⟨gm, rfl, rfl⟩
  refine Ol.p ass ?_
  refine Ol.nil ?_
  obtain ⟨VG, hVG⟩ : ∃ V, V = Value.slice (some ⟨gm, 0, none⟩) 0 0 := ⟨_, rfl⟩
  rw [← hVG]
  obtain ⟨LG, hLG⟩ : ∃ LG : List Res, LG = [row VG 32 1 0 ((madeCells (Value.slice none 0 0).cells (0 * 1)).toList.take (0 * 1))] := ⟨_, rfl⟩
  rw [← hLG]
  refine Cd.seq ?_
  refine Cd.seq ?_
  refine Cd.region ?_
  refine Ol.p asi ?_
  refine Ol.nil ?_
  refine Cd.block ?_
  refine Cd.loop (fun m σ L => Has σ [(0, .slice none 0 0), (5, VG), (6, .int .i64 0)] ∧ LG = L) (n := 0) ⟨⟨rfl, rfl, rfl, trivial⟩, rfl⟩ ?_
  rintro _ σ L ⟨hs, rfl⟩
  refine Cd.has hs ?_
  clear hs
  refine Cd.seq ?_
  refine Cd.seq ?_
  refine Cd.region ?_
  refine Ol.p mvi ?_
  refine Ol.p mvs ?_
  refine Ol.p (lens sl_L_L_api_Edge) ?_
  refine Ol.p lsi ?_
  refine Ol.nil ?_
  refine Cd.cond rfl (fun h => absurd h (by decide)) (fun _ => ?_)
  refine Cd.exit (id := 4) ?_
  refine Cd.seq ?_
  refine Cd.seq ?_
  refine Cd.region ?_
  refine Ol.p asi ?_
  refine Ol.nil ?_
  refine Cd.block ?_
  refine Cd.loop (fun m σ L => Has σ [(0, .slice none 0 0), (5, VG), (9, .int .i64 0)] ∧ LG = L) (n := 0) ⟨⟨rfl, rfl, rfl, trivial⟩, rfl⟩ ?_
  rintro _ σ L ⟨hs, rfl⟩
  refine Cd.has hs ?_
  clear hs
  refine Cd.seq ?_
  refine Cd.seq ?_
  refine Cd.region ?_
  refine Ol.p mvi ?_
  refine Ol.p mvs ?_
  refine Ol.p (lens sl_L_L_api_Edge) ?_
  refine Ol.p lsi ?_
  refine Ol.nil ?_
  refine Cd.cond rfl (fun h => absurd h (by decide)) (fun _ => ?_)
  refine Cd.exit (id := 8) ?_
  refine Cd.seq ?_
  refine Cd.seq ?_
  refine Cd.region ?_
  refine Ol.p asi ?_
  refine Ol.nil ?_
  refine Cd.block ?_
  refine Cd.loop (fun m σ L => Has σ [(0, .slice none 0 0), (5, VG), (11, .int .i64 0)] ∧ LG = L) (n := 0) ⟨⟨rfl, rfl, rfl, trivial⟩, rfl⟩ ?_
  rintro _ σ L ⟨hs, rfl⟩
  refine Cd.has hs ?_
  clear hs
  refine Cd.seq ?_
  refine Cd.seq ?_
  refine Cd.region ?_
  refine Ol.p mvi ?_
  refine Ol.p mvs ?_
  refine Ol.p (lens sl_L_L_api_Edge) ?_
  refine Ol.p lsi ?_
  refine Ol.nil ?_
  refine Cd.cond rfl (fun h => absurd h (by decide)) (fun _ => ?_)
  refine Cd.exit (id := 12) ?_
  refine Cd.seq ?_
  refine Cd.seq ?_
  refine Cd.region ?_
  refine Ol.p asi ?_
  refine Ol.nil ?_
  refine Cd.block ?_
  refine Cd.loop (fun m σ L => Has σ [(0, .slice none 0 0), (5, VG), (14, .int .i64 0)] ∧ LG = L) (n := 0) ⟨⟨rfl, rfl, rfl, trivial⟩, rfl⟩ ?_
  rintro _ σ L ⟨hs, rfl⟩
  refine Cd.has hs ?_
  clear hs
  refine Cd.seq ?_
  refine Cd.seq ?_
  refine Cd.region ?_
  refine Ol.p mvi ?_
  refine Ol.p mvs ?_
  refine Ol.p (lens sl_L_L_api_Edge) ?_
  refine Ol.p lsi ?_
  refine Ol.nil ?_
  refine Cd.cond rfl (fun h => absurd h (by decide)) (fun _ => ?_)
  refine Cd.exit (id := 16) ?_
  refine Cd.seq ?_
  refine Cd.region ?_
  refine Ol.p asb ?_
  refine Ol.nil ?_
  exact Cd.ret ⟨.bool true, ret1 rfl rfl, [], Keep.nil, rfl, rfl⟩
theorem kit_flatTiles_nil {w : World} : Ct Tryz.prog 104 #[.slice none 0 0] w (Is (.bool true)) := by
  refine Ct.mk Tryz.func104 rfl rfl ?_
  refine Cd.seq ?_
  refine Cd.region ?_
  refine Ol.p asb ?_
  refine Ol.nil ?_
  refine Cd.seq ?_
  refine Cd.seq ?_
  refine Cd.region ?_
  refine Ol.p asi ?_
  refine Ol.nil ?_
  refine Cd.block ?_
  refine Cd.loop (fun m σ L => Has σ [(0, .slice none 0 0), (3, .int .i64 0)] ∧ [] = L) (n := 0) ⟨⟨rfl, rfl, trivial⟩, rfl⟩ ?_
  rintro _ σ L ⟨hs, rfl⟩
  refine Cd.has hs ?_
  clear hs
  refine Cd.seq ?_
  refine Cd.seq ?_
  refine Cd.region ?_
  refine Ol.p mvi ?_
  refine Ol.p mvs ?_
  refine Ol.p (lens sl_L_L_api_Tile) ?_
  refine Ol.p lsi ?_
  refine Ol.nil ?_
  refine Cd.cond rfl (fun h => absurd h (by decide)) (fun _ => ?_)
  refine Cd.exit (id := 0) ?_
  refine Cd.seq ?_
  refine Cd.region ?_
  refine Ol.p mvs ?_
  refine Ol.p (lens sl_L_L_api_Tile) ?_
  refine Ol.x (mks (n := 0) (c := 0) sl_L_L_api_Tile zr_L_api_Tile) ?_
  rintro _ _ ⟨gm, rfl, rfl⟩
  refine Ol.p ass ?_
  refine Ol.nil ?_
  obtain ⟨VG, hVG⟩ : ∃ V, V = Value.slice (some ⟨gm, 0, none⟩) 0 0 := ⟨_, rfl⟩
  rw [← hVG]
  obtain ⟨LG, hLG⟩ : ∃ LG : List Res, LG = [row VG 171 1 0 ((madeCells (Value.slice none 0 0).cells (0 * 1)).toList.take (0 * 1))] := ⟨_, rfl⟩
  rw [← hLG]
  refine Cd.seq ?_
  refine Cd.seq ?_
  refine Cd.region ?_
  refine Ol.p asi ?_
  refine Ol.nil ?_
  refine Cd.block ?_
  refine Cd.loop (fun m σ L => Has σ [(0, .slice none 0 0), (5, VG), (6, .int .i64 0)] ∧ LG = L) (n := 0) ⟨⟨rfl, rfl, rfl, trivial⟩, rfl⟩ ?_
  rintro _ σ L ⟨hs, rfl⟩
  refine Cd.has hs ?_
  clear hs
  refine Cd.seq ?_
  refine Cd.seq ?_
  refine Cd.region ?_
  refine Ol.p mvi ?_
  refine Ol.p mvs ?_
  refine Ol.p (lens sl_L_L_api_Tile) ?_
  refine Ol.p lsi ?_
  refine Ol.nil ?_
  refine Cd.cond rfl (fun h => absurd h (by decide)) (fun _ => ?_)
  refine Cd.exit (id := 4) ?_
  refine Cd.seq ?_
  refine Cd.seq ?_
  refine Cd.region ?_
  refine Ol.p asi ?_
  refine Ol.nil ?_
  refine Cd.block ?_
  refine Cd.loop (fun m σ L => Has σ [(0, .slice none 0 0), (5, VG), (9, .int .i64 0)] ∧ LG = L) (n := 0) ⟨⟨rfl, rfl, rfl, trivial⟩, rfl⟩ ?_
  rintro _ σ L ⟨hs, rfl⟩
  refine Cd.has hs ?_
  clear hs
  refine Cd.seq ?_
  refine Cd.seq ?_
  refine Cd.region ?_
  refine Ol.p mvi ?_
  refine Ol.p mvs ?_
  refine Ol.p (lens sl_L_L_api_Tile) ?_
  refine Ol.p lsi ?_
  refine Ol.nil ?_
  refine Cd.cond rfl (fun h => absurd h (by decide)) (fun _ => ?_)
  refine Cd.exit (id := 8) ?_
  refine Cd.seq ?_
  refine Cd.seq ?_
  refine Cd.region ?_
  refine Ol.p asi ?_
  refine Ol.nil ?_
  refine Cd.block ?_
  refine Cd.loop (fun m σ L => Has σ [(0, .slice none 0 0), (5, VG), (11, .int .i64 0)] ∧ LG = L) (n := 0) ⟨⟨rfl, rfl, rfl, trivial⟩, rfl⟩ ?_
  rintro _ σ L ⟨hs, rfl⟩
  refine Cd.has hs ?_
  clear hs
  refine Cd.seq ?_
  refine Cd.seq ?_
  refine Cd.region ?_
  refine Ol.p mvi ?_
  refine Ol.p mvs ?_
  refine Ol.p (lens sl_L_L_api_Tile) ?_
  refine Ol.p lsi ?_
  refine Ol.nil ?_
  refine Cd.cond rfl (fun h => absurd h (by decide)) (fun _ => ?_)
  refine Cd.exit (id := 12) ?_
  refine Cd.seq ?_
  refine Cd.seq ?_
  refine Cd.region ?_
  refine Ol.p asi ?_
  refine Ol.nil ?_
  refine Cd.block ?_
  refine Cd.loop (fun m σ L => Has σ [(0, .slice none 0 0), (5, VG), (14, .int .i64 0)] ∧ LG = L) (n := 0) ⟨⟨rfl, rfl, rfl, trivial⟩, rfl⟩ ?_
  rintro _ σ L ⟨hs, rfl⟩
  refine Cd.has hs ?_
  clear hs
  refine Cd.seq ?_
  refine Cd.seq ?_
  refine Cd.region ?_
  refine Ol.p mvi ?_
  refine Ol.p mvs ?_
  refine Ol.p (lens sl_L_L_api_Tile) ?_
  refine Ol.p lsi ?_
  refine Ol.nil ?_
  refine Cd.cond rfl (fun h => absurd h (by decide)) (fun _ => ?_)
  refine Cd.exit (id := 16) ?_
  refine Cd.seq ?_
  refine Cd.region ?_
  refine Ol.p asb ?_
  refine Ol.nil ?_
  exact Cd.ret ⟨.bool true, ret1 rfl rfl, [], Keep.nil, rfl, rfl⟩
theorem kit_flatCalls_nil {w : World} : Ct Tryz.prog 105 #[.slice none 0 0] w (Is (.bool true)) := by
  refine Ct.mk Tryz.func105 rfl rfl ?_
  refine Cd.seq ?_
  refine Cd.region ?_
  refine Ol.p asb ?_
  refine Ol.nil ?_
  refine Cd.seq ?_
  refine Cd.seq ?_
  refine Cd.region ?_
  refine Ol.p asi ?_
  refine Ol.nil ?_
  refine Cd.block ?_
  refine Cd.loop (fun m σ L => Has σ [(0, .slice none 0 0), (3, .int .i64 0)] ∧ [] = L) (n := 0) ⟨⟨rfl, rfl, trivial⟩, rfl⟩ ?_
  rintro _ σ L ⟨hs, rfl⟩
  refine Cd.has hs ?_
  clear hs
  refine Cd.seq ?_
  refine Cd.seq ?_
  refine Cd.region ?_
  refine Ol.p mvi ?_
  refine Ol.p mvs ?_
  refine Ol.p (lens sl_L_L_api_Call) ?_
  refine Ol.p lsi ?_
  refine Ol.nil ?_
  refine Cd.cond rfl (fun h => absurd h (by decide)) (fun _ => ?_)
  refine Cd.exit (id := 0) ?_
  refine Cd.seq ?_
  refine Cd.region ?_
  refine Ol.p mvs ?_
  refine Ol.p (lens sl_L_L_api_Call) ?_
  refine Ol.x (mks (n := 0) (c := 0) sl_L_L_api_Call zr_L_api_Call) ?_
  rintro _ _ ⟨gm, rfl, rfl⟩
  refine Ol.p ass ?_
  refine Ol.nil ?_
  obtain ⟨VG, hVG⟩ : ∃ V, V = Value.slice (some ⟨gm, 0, none⟩) 0 0 := ⟨_, rfl⟩
  rw [← hVG]
  obtain ⟨LG, hLG⟩ : ∃ LG : List Res, LG = [row VG 177 1 0 ((madeCells (Value.slice none 0 0).cells (0 * 1)).toList.take (0 * 1))] := ⟨_, rfl⟩
  rw [← hLG]
  refine Cd.seq ?_
  refine Cd.seq ?_
  refine Cd.region ?_
  refine Ol.p asi ?_
  refine Ol.nil ?_
  refine Cd.block ?_
  refine Cd.loop (fun m σ L => Has σ [(0, .slice none 0 0), (5, VG), (6, .int .i64 0)] ∧ LG = L) (n := 0) ⟨⟨rfl, rfl, rfl, trivial⟩, rfl⟩ ?_
  rintro _ σ L ⟨hs, rfl⟩
  refine Cd.has hs ?_
  clear hs
  refine Cd.seq ?_
  refine Cd.seq ?_
  refine Cd.region ?_
  refine Ol.p mvi ?_
  refine Ol.p mvs ?_
  refine Ol.p (lens sl_L_L_api_Call) ?_
  refine Ol.p lsi ?_
  refine Ol.nil ?_
  refine Cd.cond rfl (fun h => absurd h (by decide)) (fun _ => ?_)
  refine Cd.exit (id := 4) ?_
  refine Cd.seq ?_
  refine Cd.seq ?_
  refine Cd.region ?_
  refine Ol.p asi ?_
  refine Ol.nil ?_
  refine Cd.block ?_
  refine Cd.loop (fun m σ L => Has σ [(0, .slice none 0 0), (5, VG), (9, .int .i64 0)] ∧ LG = L) (n := 0) ⟨⟨rfl, rfl, rfl, trivial⟩, rfl⟩ ?_
  rintro _ σ L ⟨hs, rfl⟩
  refine Cd.has hs ?_
  clear hs
  refine Cd.seq ?_
  refine Cd.seq ?_
  refine Cd.region ?_
  refine Ol.p mvi ?_
  refine Ol.p mvs ?_
  refine Ol.p (lens sl_L_L_api_Call) ?_
  refine Ol.p lsi ?_
  refine Ol.nil ?_
  refine Cd.cond rfl (fun h => absurd h (by decide)) (fun _ => ?_)
  refine Cd.exit (id := 8) ?_
  refine Cd.seq ?_
  refine Cd.seq ?_
  refine Cd.region ?_
  refine Ol.p asi ?_
  refine Ol.nil ?_
  refine Cd.block ?_
  refine Cd.loop (fun m σ L => Has σ [(0, .slice none 0 0), (5, VG), (11, .int .i64 0)] ∧ LG = L) (n := 0) ⟨⟨rfl, rfl, rfl, trivial⟩, rfl⟩ ?_
  rintro _ σ L ⟨hs, rfl⟩
  refine Cd.has hs ?_
  clear hs
  refine Cd.seq ?_
  refine Cd.seq ?_
  refine Cd.region ?_
  refine Ol.p mvi ?_
  refine Ol.p mvs ?_
  refine Ol.p (lens sl_L_L_api_Call) ?_
  refine Ol.p lsi ?_
  refine Ol.nil ?_
  refine Cd.cond rfl (fun h => absurd h (by decide)) (fun _ => ?_)
  refine Cd.exit (id := 12) ?_
  refine Cd.seq ?_
  refine Cd.seq ?_
  refine Cd.region ?_
  refine Ol.p asi ?_
  refine Ol.nil ?_
  refine Cd.block ?_
  refine Cd.loop (fun m σ L => Has σ [(0, .slice none 0 0), (5, VG), (14, .int .i64 0)] ∧ LG = L) (n := 0) ⟨⟨rfl, rfl, rfl, trivial⟩, rfl⟩ ?_
  rintro _ σ L ⟨hs, rfl⟩
  refine Cd.has hs ?_
  clear hs
  refine Cd.seq ?_
  refine Cd.seq ?_
  refine Cd.region ?_
  refine Ol.p mvi ?_
  refine Ol.p mvs ?_
  refine Ol.p (lens sl_L_L_api_Call) ?_
  refine Ol.p lsi ?_
  refine Ol.nil ?_
  refine Cd.cond rfl (fun h => absurd h (by decide)) (fun _ => ?_)
  refine Cd.exit (id := 16) ?_
  refine Cd.seq ?_
  refine Cd.region ?_
  refine Ol.p asb ?_
  refine Ol.nil ?_
  exact Cd.ret ⟨.bool true, ret1 rfl rfl, [], Keep.nil, rfl, rfl⟩
end
end Go.Proofs.YtkefmjhagmacfaaGreatDoor

/- The kit: ApartInts, walked. -/
namespace Go.Proofs.YtkefmjhagmacfaaGreatDoor
set_option linter.unusedVariables false
set_option linter.unusedSimpArgs false
open Go Go.RowKit
set_option maxRecDepth 100000
section
/-- A bag that holds lists of numbers alone. -/
def bagC (v : Value) : Array Value := #[.slice none 0 0, .slice none 0 0, v, .slice none 0 0, .slice none 0 0, .slice none 0 0, .slice none 0 0, .slice none 0 0, .slice none 0 0, .slice none 0 0, .slice none 0 0, .slice none 0 0, .slice none 0 0, .slice none 0 0, .slice none 0 0, .slice none 0 0, .slice none 0 0]
theorem hdL_succ (N : Nat) (it : Nat → Li) : hdL (N + 1) it = hdL N it ++ [.slice (it N).A (it N).n (it N).c] := by simp [hdL, List.range_succ, Li.v]
theorem kit_putInts_cm {w0 : World} {B g n c nl cl : Nat} {A Al : Option Addr} {hs : List Value} (hho : n < 50000) :
    Cm Tryz.prog 69 #[.pointer (some ⟨g, 0, none⟩), .slice Al nl cl] w0 B [blk g (.cells (bagC (.slice A n c)) 100), row (.slice A n c) 22 1 n hs] (fun v L => v = .tuple #[] ∧ ∃ A' c', L = [blk g (.cells (bagC (.slice A' (n + 1) c')) 100), row (.slice A' (n + 1) c') 22 1 (n + 1) (hs ++ [.slice Al nl cl])]) := by
  refine Cm.mk Tryz.func69 rfl rfl fun M => ?_
  refine Cd.region ?_
  refine Ol.p mvp ?_
  refine Ol.p mvp ?_
  refine Ol.p nlc ?_
  refine Ol.p (fda fd_kit_bag_2) ?_
  refine Ol.p (ld (v := .slice A n c) one_L_L_int (Rd.blk (i := 0) (k := 2) rfl rfl)) ?_
  refine Ol.p mvs ?_
  refine Ol.x (bsv [.slice Al nl cl] sl_L_L_int zr_L_int (by simp [Value.cells])) ?_
  rintro _ _ ⟨g9, rfl, rfl⟩
  refine Ol.x (apn (i := 2) (n := n) (m := 1) sl_L_L_int zr_L_int rfl (by decide) rfl (Src.row (i := 0) rfl rfl) (by intro u hu; simp at hu; subst hu; rfl) (by unfold maxLen; omega) (by omega)) ?_
  rintro _ _ ⟨A', c', rfl, rfl⟩
  refine Ol.p nlc ?_
  refine Ol.p (fda fd_kit_bag_2) ?_
  refine Ol.s (sto (i := 1) (k := 2) (v := .slice A' (n + 1) c') (.inr sz_L_L_int) rfl rfl rfl (by simp [bagC]) rfl) ?_
  refine Ol.nil ?_
  exact ⟨_, ret0 rfl, _, .sub (.cons _ (List.Sublist.refl _)), rfl, A', c', rfl⟩

theorem kit_apart_cm {w0 : World} {B g N cL : Nat} {AL : Option Addr} {it : Nat → Li} {R0 : Nat → Res} (hN : N < 50000) (h0 : ∀ k, k < N → OwnP k 0 (it k) (R0 k)) (hns : ∀ k, k < N → (it k).n < 2 ^ 39) :
    Cm Tryz.prog 70 #[.pointer (some ⟨g, 0, none⟩)] w0 B (blk g (.cells (bagC (.slice AL N cL)) 100) :: row (.slice AL N cL) 22 1 N (hdL N it) :: resL N R0) (Is (.bool true)) := by
  refine Cm.mk Tryz.func70 rfl rfl fun M => ?_
  refine Cd.seq ?_
  refine Cd.region ?_
  refine Ol.p asb ?_
  refine Ol.nil ?_
  refine Cd.seq ?_
  refine Cd.region ?_
  refine Ol.p mvp ?_
  refine Ol.p nlc ?_
  refine Ol.p (fda fd_kit_bag_0) ?_
  refine Ol.p (ld (v := .slice none 0 0) one_L_L_uint32 (Rd.blk (i := 0) (k := 0) rfl rfl)) ?_
  refine Ol.s (cl en_kit_flatLimbs (fun M w' hh => kit_flatLimbs_nil)) ?_
  refine Ol.p mvb ?_
  refine Ol.gp rfl mvp ?_
  refine Ol.gp rfl nlc ?_
  refine Ol.gp rfl (fda fd_kit_bag_1) ?_
  refine Ol.gp rfl (ld (v := .slice none 0 0) one_L_L_uint64 (Rd.blk (i := 0) (k := 1) rfl rfl)) ?_
  refine Ol.gs rfl (cl en_kit_flatWords (fun M w' hh => kit_flatWords_nil)) ?_
  refine Ol.p (pkTb rfl) ?_
  refine Ol.p mvb ?_
  refine Ol.gp rfl mvp ?_
  refine Ol.gp rfl nlc ?_
  refine Ol.gp rfl (fda fd_kit_bag_2) ?_
  refine Ol.gp rfl (ld (v := .slice AL N cL) one_L_L_int (Rd.blk (i := 0) (k := 2) rfl rfl)) ?_
  refine Ol.gx rfl (sp_callm (vs := [.slice AL N cL]) (Lin := row (.slice AL N cL) 22 1 N (hdL N it) :: resL N R0) (L2 := [blk g (.cells (bagC (.slice AL N cL)) 100)]) en_kit_flatInts (List.perm_append_comm (l₁ := [blk g (.cells (bagC (.slice AL N cL)) 100)])) (kit_flatInts_cm hN h0 hns)) ?_
  rintro _ _ ⟨_, rfl, rfl, rfl⟩
  refine Ol.p (pkTb rfl) ?_
  refine Ol.p mvb ?_
  refine Ol.gp rfl mvp ?_
  refine Ol.gp rfl nlc ?_
  refine Ol.gp rfl (fda fd_kit_bag_3) ?_
  refine Ol.gp rfl (ld (v := .slice none 0 0) one_L_L_int64 (Rd.blk (i := 0) (k := 3) rfl rfl)) ?_
  refine Ol.gs rfl (cl en_kit_flatLongs (fun M w' hh => kit_flatLongs_nil)) ?_
  refine Ol.p (pkTb rfl) ?_
  refine Ol.p mvb ?_
  refine Ol.gp rfl mvp ?_
  refine Ol.gp rfl nlc ?_
  refine Ol.gp rfl (fda fd_kit_bag_4) ?_
  refine Ol.gp rfl (ld (v := .slice none 0 0) one_L_L_string (Rd.blk (i := 0) (k := 4) rfl rfl)) ?_
  refine Ol.gs rfl (cl en_kit_flatTexts (fun M w' hh => kit_flatTexts_nil)) ?_
  refine Ol.p (pkTb rfl) ?_
  refine Ol.p mvb ?_
  refine Ol.gp rfl mvp ?_
  refine Ol.gp rfl nlc ?_
  refine Ol.gp rfl (fda fd_kit_bag_5) ?_
  refine Ol.gp rfl (ld (v := .slice none 0 0) one_L_L_uint8 (Rd.blk (i := 0) (k := 5) rfl rfl)) ?_
  refine Ol.gs rfl (cl en_kit_flatBytes (fun M w' hh => kit_flatBytes_nil)) ?_
  refine Ol.p (pkTb rfl) ?_
  refine Ol.p mvb ?_
  refine Ol.gp rfl mvp ?_
  refine Ol.gp rfl nlc ?_
  refine Ol.gp rfl (fda fd_kit_bag_6) ?_
  refine Ol.gp rfl (ld (v := .slice none 0 0) one_L_L_bool (Rd.blk (i := 0) (k := 6) rfl rfl)) ?_
  refine Ol.gs rfl (cl en_kit_flatTruths (fun M w' hh => kit_flatTruths_nil)) ?_
  refine Ol.p (pkTb rfl) ?_
  refine Ol.p mvb ?_
  refine Ol.gp rfl mvp ?_
  refine Ol.gp rfl nlc ?_
  refine Ol.gp rfl (fda fd_kit_bag_7) ?_
  refine Ol.gp rfl (ld (v := .slice none 0 0) one_L_L_api_Ins (Rd.blk (i := 0) (k := 7) rfl rfl)) ?_
  refine Ol.gs rfl (cl en_kit_flatRow (fun M w' hh => kit_flatRow_nil)) ?_
  refine Ol.p (pkTb rfl) ?_
  refine Ol.p mvb ?_
  refine Ol.gp rfl mvp ?_
  refine Ol.gp rfl nlc ?_
  refine Ol.gp rfl (fda fd_kit_bag_8) ?_
  refine Ol.gp rfl (ld (v := .slice none 0 0) one_L_L_api_Block (Rd.blk (i := 0) (k := 8) rfl rfl)) ?_
  refine Ol.gs rfl (cl en_kit_flatBlocks (fun M w' hh => kit_flatBlocks_nil)) ?_
  refine Ol.p (pkTb rfl) ?_
  refine Ol.p mvb ?_
  refine Ol.gp rfl mvp ?_
  refine Ol.gp rfl nlc ?_
  refine Ol.gp rfl (fda fd_kit_bag_9) ?_
  refine Ol.gp rfl (ld (v := .slice none 0 0) one_L_L_api_Func (Rd.blk (i := 0) (k := 9) rfl rfl)) ?_
  refine Ol.gs rfl (cl en_kit_flatFuncs (fun M w' hh => kit_flatFuncs_nil)) ?_
  refine Ol.p (pkTb rfl) ?_
  refine Ol.p mvb ?_
  refine Ol.gp rfl mvp ?_
  refine Ol.gp rfl nlc ?_
  refine Ol.gp rfl (fda fd_kit_bag_10) ?_
  refine Ol.gp rfl (ld (v := .slice none 0 0) one_L_L_api_Target (Rd.blk (i := 0) (k := 10) rfl rfl)) ?_
  refine Ol.gs rfl (cl en_kit_flatTargets (fun M w' hh => kit_flatTargets_nil)) ?_
  refine Ol.p (pkTb rfl) ?_
  refine Ol.p mvb ?_
  refine Ol.gp rfl mvp ?_
  refine Ol.gp rfl nlc ?_
  refine Ol.gp rfl (fda fd_kit_bag_11) ?_
  refine Ol.gp rfl (ld (v := .slice none 0 0) one_L_L_api_Machine (Rd.blk (i := 0) (k := 11) rfl rfl)) ?_
  refine Ol.gs rfl (cl en_kit_flatMachines (fun M w' hh => kit_flatMachines_nil)) ?_
  refine Ol.p (pkTb rfl) ?_
  refine Ol.p mvb ?_
  refine Ol.gp rfl mvp ?_
  refine Ol.gp rfl nlc ?_
  refine Ol.gp rfl (fda fd_kit_bag_12) ?_
  refine Ol.gp rfl (ld (v := .slice none 0 0) one_L_L_api_Loc (Rd.blk (i := 0) (k := 12) rfl rfl)) ?_
  refine Ol.gs rfl (cl en_kit_flatLocs (fun M w' hh => kit_flatLocs_nil)) ?_
  refine Ol.p (pkTb rfl) ?_
  refine Ol.p mvb ?_
  refine Ol.gp rfl mvp ?_
  refine Ol.gp rfl nlc ?_
  refine Ol.gp rfl (fda fd_kit_bag_13) ?_
  refine Ol.gp rfl (ld (v := .slice none 0 0) one_L_L_api_Fact (Rd.blk (i := 0) (k := 13) rfl rfl)) ?_
  refine Ol.gs rfl (cl en_kit_flatFacts (fun M w' hh => kit_flatFacts_nil)) ?_
  refine Ol.p (pkTb rfl) ?_
  refine Ol.p mvb ?_
  refine Ol.gp rfl mvp ?_
  refine Ol.gp rfl nlc ?_
  refine Ol.gp rfl (fda fd_kit_bag_14) ?_
  refine Ol.gp rfl (ld (v := .slice none 0 0) one_L_L_api_Edge (Rd.blk (i := 0) (k := 14) rfl rfl)) ?_
  refine Ol.gs rfl (cl en_kit_flatEdges (fun M w' hh => kit_flatEdges_nil)) ?_
  refine Ol.p (pkTb rfl) ?_
  refine Ol.p mvb ?_
  refine Ol.gp rfl mvp ?_
  refine Ol.gp rfl nlc ?_
  refine Ol.gp rfl (fda fd_kit_bag_15) ?_
  refine Ol.gp rfl (ld (v := .slice none 0 0) one_L_L_api_Tile (Rd.blk (i := 0) (k := 15) rfl rfl)) ?_
  refine Ol.gs rfl (cl en_kit_flatTiles (fun M w' hh => kit_flatTiles_nil)) ?_
  refine Ol.p (pkTb rfl) ?_
  refine Ol.p mvb ?_
  refine Ol.gp rfl mvp ?_
  refine Ol.gp rfl nlc ?_
  refine Ol.gp rfl (fda fd_kit_bag_16) ?_
  refine Ol.gp rfl (ld (v := .slice none 0 0) one_L_L_api_Call (Rd.blk (i := 0) (k := 16) rfl rfl)) ?_
  refine Ol.gs rfl (cl en_kit_flatCalls (fun M w' hh => kit_flatCalls_nil)) ?_
  refine Ol.p (pkTb rfl) ?_
  refine Ol.p asb ?_
  refine Ol.nil ?_
  exact Cd.ret ⟨.bool true, ret1 rfl rfl, [], Keep.nil, rfl, rfl⟩
theorem kit_ApartRes_cm {w0 : World} {B N cL : Nat} {AL : Option Addr} {it : Nat → Li} {R0 : Nat → Res} (hN : N < 50000) (h0 : ∀ k, k < N → OwnP k 0 (it k) (R0 k)) (hns : ∀ k, k < N → (it k).n < 2 ^ 39) :
    Cm Tryz.prog 29 #[.slice AL N cL] w0 B (row (.slice AL N cL) 22 1 N (hdL N it) :: resL N R0) (Is (.bool true)) := by
  refine Cm.mk Tryz.func29 rfl rfl fun M => ?_
  obtain ⟨RS, hRS⟩ : ∃ RS, RS = resL N R0 := ⟨_, rfl⟩
  rw [← hRS]
  refine Cd.seq ?_
  refine Cd.region ?_
  refine Ol.p asb ?_
  refine Ol.nil ?_
  refine Cd.nr 22 1 ?_
  refine Cd.seq ?_
  refine Cd.region ?_
  refine Ol.p (bds (cs := bagC (.slice none 0 0)) bs_kit_bag zr_kit_bag (hf := by kernel_rfl)) ?_
  refine Ol.x bxg ?_
  rintro _ _ ⟨g6, rfl, rfl⟩
  refine Ol.p asp ?_
  refine Ol.nil ?_
  refine Cd.seq ?_
  refine Cd.seq ?_
  refine Cd.region ?_
  refine Ol.p asi ?_
  refine Ol.nil ?_
  refine Cd.block ?_
  refine Cd.loop (fun m σ L => ∃ (k : Nat) (A : Option Addr) (c : Nat), m = N - k ∧ k ≤ N ∧ Has σ [(0, .slice AL N cL), (3, .pointer (some ⟨g6, 0, none⟩)), (4, .int .i64 k)] ∧ blk g6 (.cells (bagC (.slice A k c)) 100) :: row (.slice A k c) 22 1 k (hdL k it) :: row (.slice AL N cL) 22 1 N (hdL N it) :: RS = L) (n := N) ⟨0, none, 0, rfl, Nat.zero_le _, ⟨rfl, rfl, rfl, trivial⟩, rfl⟩ ?_
  rintro _ σ L ⟨k, A, c, rfl, hk, hs, rfl⟩
  refine Cd.has hs ?_
  clear hs
  refine Cd.seq ?_
  refine Cd.seq ?_
  refine Cd.region ?_
  refine Ol.p mvi ?_
  refine Ol.p mvs ?_
  refine Ol.p (lens sl_L_L_int) ?_
  refine Ol.p lsi ?_
  refine Ol.nil ?_
  refine Cd.cond rfl (fun h => ?_) (fun h => ?_)
  · have hlt : k < N := by
      have h : decide ((k : Int) < (N : Int)) = true := h
      have := of_decide_eq_true h
      omega
    have hd : (hdL N it)[k * 1]? = some (.slice (it k).A (it k).n (it k).c) := by rw [Nat.mul_one, hdL_get hlt]
    refine Cd.skip ?_
    refine Cd.seq ?_
    refine Cd.block ?_
    refine Cd.region ?_
    refine Ol.p mvp ?_
    refine Ol.p mvs ?_
    refine Ol.p mvi ?_
    refine Ol.p (ixn (ix := k) sl_L_L_int (Som.row (i := 2) rfl (by omega))) ?_
    refine Ol.p (ld (v := .slice (it k).A (it k).n (it k).c) one_L_int (Rd.row (i := 2) rfl hd)) ?_
    refine Ol.x (sp_callm (vs := [.pointer (some ⟨g6, 0, none⟩), .slice (it k).A (it k).n (it k).c]) (Lin := [blk g6 (.cells (bagC (.slice A k c)) 100), row (.slice A k c) 22 1 k (hdL k it)]) (L2 := row (.slice AL N cL) 22 1 N (hdL N it) :: RS) en_P_kit_bag_putInts (.refl _) (kit_putInts_cm (by omega))) ?_
    rintro _ _ ⟨_, rfl, rfl, A', c', rfl⟩
    refine Ol.nil ?_
    refine Cd.region ?_
    refine Ol.p mvi ?_
    refine Ol.p addi ?_
    refine Ol.p asi ?_
    refine Ol.nil ?_
    exact ⟨N - (k + 1), by omega, k + 1, A', c', rfl, by omega, ⟨rfl, rfl, rfl, trivial⟩, by rw [hdL_succ]; rfl⟩
  have hke : k = N := by
    have h : decide ((k : Int) < (N : Int)) = false := h
    have := of_decide_eq_false h
    omega
  obtain rfl : N = k := hke.symm
  refine Cd.exit (id := 0) ?_
  refine Cd.seq ?_
  refine Cd.region ?_
  refine Ol.p mvp ?_
  refine Ol.x (sp_callm (vs := [.pointer (some ⟨g6, 0, none⟩)]) (Lin := blk g6 (.cells (bagC (.slice A N c)) 100) :: row (.slice A N c) 22 1 N (hdL N it) :: resL N R0) (L2 := [row (.slice AL N cL) 22 1 N (hdL N it)]) en_P_kit_bag_apart (by rw [hRS]; exact perm_count fun _ x => by simp only [List.set_cons_succ, List.set_cons_zero, List.count_append, List.count_cons, List.count_nil, List.cons_append, List.nil_append]; omega) (kit_apart_cm hN h0 hns)) ?_
  rintro _ _ ⟨_, rfl, rfl, rfl⟩
  refine Ol.p asb ?_
  refine Ol.nil ?_
  exact Cd.ret ⟨.bool true, ret1 rfl rfl, [], Keep.nil, rfl, rfl⟩
end
end Go.Proofs.YtkefmjhagmacfaaGreatDoor

/- How great a function is: walked. -/
namespace Go.Proofs.YtkefmjhagmacfaaGreatDoor
set_option linter.unusedVariables false
open Go Go.RowKit
set_option maxRecDepth 100000

def argSum (l : List RIns) : Nat := (l.map fun i => i.args.length).sum
def bsz (b : RBlk) : Nat := 1 + b.ins.length + argSum b.ins
def blocksSz (l : List RBlk) : Nat := (l.map bsz).sum
def RFun.sz (f : RFun) : Nat := f.params.length + blocksSz f.blocks
theorem argSum_snoc {l : List RIns} {k : Nat} {i : RIns} (h : l[k]? = some i) : argSum (l.take (k + 1)) = argSum (l.take k) + i.args.length := by
  unfold argSum
  rw [take_snoc_ h, List.map_append, List.sum_append]; simp
theorem blocksSz_snoc {l : List RBlk} {k : Nat} {b : RBlk} (h : l[k]? = some b) : blocksSz (l.take (k + 1)) = blocksSz (l.take k) + bsz b := by
  unfold blocksSz
  rw [take_snoc_ h, List.map_append, List.sum_append]; simp
/-- What is counted: all, or more than the bound. -/
def Counted (n most total : Nat) : Prop := (n ≤ most → n = total) ∧ n < 2 ^ 55
theorem counted_ex {most : Nat} (hm : most < 2 ^ 40) (t : Nat) : ∃ n, Counted n most t := by
  rcases Nat.lt_or_ge most t with h | h
  · exact ⟨most + 1, fun h' => by omega, by omega⟩
  · exact ⟨t, fun _ => rfl, by omega⟩
section
set_option maxHeartbeats 1000000 in
theorem kit_BlocksOf_ct {w : World} {f : RFun} {most : Nat} (hf : FunAt w w.heap.size f) (hfit : Fit f) (hm : most < 2 ^ 40) : Ct Tryz.prog 47 #[.slice f.bA f.blocks.length f.bC, .int .i64 most] w (fun v R => ∃ n : Nat, v = .int .i64 n ∧ Counted n most (blocksSz f.blocks) ∧ R = []) := by
  have hbl := hfit.blen
  refine Ct.mk Tryz.func47 rfl rfl ?_
  refine Cd.seq ?_
  refine Cd.region ?_
  refine Ol.p asi ?_
  refine Ol.nil ?_
  refine Cd.seq ?_
  refine Cd.region ?_
  refine Ol.p asi ?_
  refine Ol.nil ?_
  refine Cd.seq ?_
  refine Cd.seq ?_
  refine Cd.region ?_
  refine Ol.p asi ?_
  refine Ol.nil ?_
  refine Cd.block ?_
  refine Cd.loop (fun m σ L => ∃ k n : Nat, m = f.blocks.length - k ∧ k ≤ f.blocks.length ∧ Has σ [(0, .slice f.bA f.blocks.length f.bC), (1, .int .i64 most), (5, .int .i64 n), (6, .int .i64 k)] ∧ L = [] ∧ Counted n most (blocksSz (f.blocks.take k))) (n := f.blocks.length) ⟨0, 0, rfl, Nat.zero_le _, ⟨rfl, rfl, rfl, rfl, trivial⟩, rfl, fun _ => rfl, by decide⟩ ?_
  rintro _ σ L ⟨k, n, rfl, hk, hs, rfl, hn⟩
  obtain ⟨hn1, hn2⟩ := hn
  refine Cd.has hs ?_
  refine Cd.seq ?_
  refine Cd.seq ?_
  cases h4 : decide ((k : Int) < (f.blocks.length : Int)) with
  | true =>
    have hlt : k < f.blocks.length := by simpa using h4
    obtain ⟨b, hb⟩ : ∃ b, f.blocks[k]? = some b := ⟨_, List.getElem?_eq_getElem hlt⟩
    have hbm : b ∈ f.blocks := List.mem_of_getElem? hb
    have hil := hfit.ilen b hbm
    have hins := hf.ins b hbm
    have hsl : Som w w.heap.size ([] : List Res) f.bA := Som.slc hf.blocks (by omega)
    have hc0 : (f.blocks.flatMap RBlk.cells)[k * 5 + 0]? = some (.slice b.iA b.ins.length b.iC) := hf.cell hb (by decide)
    refine Cd.region ?_
    refine Ol.p mvi ?_
    refine Ol.p mvs ?_
    refine Ol.p (lens sl_L_api_Block) ?_
    refine Ol.p lsi ?_
    refine Ol.p mvb ?_
    refine Ol.gp h4 mvi ?_
    refine Ol.gp h4 mvi ?_
    refine Ol.gp h4 lei ?_
    refine Ol.p (pkTb h4) ?_
    refine Ol.nil ?_
    refine Cd.cond rfl (fun h => ?_) (fun h => ?_)
    · have hle : n ≤ most := by simpa using h
      have hne := hn1 hle
      refine Cd.skip ?_
      refine Cd.mid (fun σ' L' => ∃ n' : Nat, Has σ' [(0, .slice f.bA f.blocks.length f.bC), (1, .int .i64 most), (5, .int .i64 n'), (6, .int .i64 k)] ∧ L' = [] ∧ Counted n' most (blocksSz (f.blocks.take (k + 1)))) ?_ ?_
      · refine Cd.block ?_
        refine Cd.seq ?_
        refine Cd.region ?_
        refine Ol.p mvi ?_
        refine Ol.p addi ?_
        refine Ol.p mvs ?_
        refine Ol.p mvi ?_
        refine Ol.p (ixn sl_L_api_Block hsl) ?_
        refine Ol.p (fdp fd_api_Block_0) ?_
        refine Ol.p (ld one_L_api_Ins (Rd.slc hf.blocks hc0)) ?_
        refine Ol.p (lens sl_L_api_Ins) ?_
        refine Ol.p addi ?_
        refine Ol.p asi ?_
        refine Ol.nil ?_
        refine Cd.seq ?_
        refine Cd.region ?_
        refine Ol.p asi ?_
        refine Ol.nil ?_
        refine Cd.block ?_
        refine Cd.loop (fun m σ L => ∃ j n : Nat, m = b.ins.length - j ∧ j ≤ b.ins.length ∧ Has σ [(0, .slice f.bA f.blocks.length f.bC), (1, .int .i64 most), (5, .int .i64 n), (6, .int .i64 k), (7, .int .i64 j)] ∧ L = [] ∧ (n ≤ most → n = blocksSz (f.blocks.take k) + 1 + b.ins.length + argSum (b.ins.take j)) ∧ n < 2 ^ 55 ∧ (j = 0 → n ≤ most + 1 + b.ins.length)) (n := b.ins.length) ⟨0, n + 1 + b.ins.length, rfl, Nat.zero_le _, ⟨rfl, rfl, rfl, rfl, rfl, trivial⟩, rfl, fun _ => by rw [hne]; rfl, by omega, fun _ => by omega⟩ ?_
        rintro _ σ L ⟨j, n, rfl, hj, hs, rfl, hq1, hq2, hq3⟩
        refine Cd.has hs ?_
        refine Cd.seq ?_
        refine Cd.seq ?_
        cases h8 : decide ((j : Int) < (b.ins.length : Int)) with
        | true =>
          have hjl : j < b.ins.length := by simpa using h8
          obtain ⟨i, hi⟩ : ∃ i, b.ins[j]? = some i := ⟨_, List.getElem?_eq_getElem hjl⟩
          have him : i ∈ b.ins := List.mem_of_getElem? hi
          have hal := hfit.alen b hbm i him
          have hc6 : (b.ins.flatMap RIns.cells)[j * 8 + 6]? = some (.slice i.aA i.args.length i.aC) := flat_get RIns.len _ _ _ _ hi (by decide)
          refine Cd.region ?_
          refine Ol.p mvi ?_
          refine Ol.p mvs ?_
          refine Ol.p mvi ?_
          refine Ol.p (ixn sl_L_api_Block hsl) ?_
          refine Ol.p (fdp fd_api_Block_0) ?_
          refine Ol.p (ld one_L_api_Ins (Rd.slc hf.blocks hc0)) ?_
          refine Ol.p (lens sl_L_api_Ins) ?_
          refine Ol.p lsi ?_
          refine Ol.p mvb ?_
          refine Ol.gp h8 mvi ?_
          refine Ol.gp h8 mvi ?_
          refine Ol.gp h8 lei ?_
          refine Ol.p (pkTb h8) ?_
          refine Ol.nil ?_
          refine Cd.cond rfl (fun h => ?_) (fun h => ?_)
          · have hle : n ≤ most := by simpa using h
            refine Cd.skip ?_
            refine Cd.seq ?_
            refine Cd.block ?_
            refine Cd.region ?_
            refine Ol.p mvi ?_
            refine Ol.p mvs ?_
            refine Ol.p mvi ?_
            refine Ol.p (ixn sl_L_api_Block hsl) ?_
            refine Ol.p (fdp fd_api_Block_0) ?_
            refine Ol.p (ld one_L_api_Ins (Rd.slc hf.blocks hc0)) ?_
            refine Ol.p mvi ?_
            refine Ol.p (ixn sl_L_api_Ins (Som.slc hins (by omega))) ?_
            refine Ol.p (fdp fd_api_Ins_6) ?_
            refine Ol.p (ld one_L_int (Rd.slc hins hc6)) ?_
            refine Ol.p (lens sl_L_int) ?_
            refine Ol.p addi ?_
            refine Ol.p asi ?_
            refine Ol.nil ?_
            refine Cd.region ?_
            refine Ol.p mvi ?_
            refine Ol.p addi ?_
            refine Ol.p asi ?_
            refine Ol.nil ?_
            refine ⟨b.ins.length - (j + 1), by omega, j + 1, n + i.args.length, rfl, by omega, ⟨rfl, rfl, rfl, rfl, rfl, trivial⟩, rfl, fun h' => ?_, by omega, fun h' => by omega⟩
            rw [argSum_snoc hi, hq1 hle]
            omega
          · have hgt : most < n := by
              have : ¬ (n : Int) ≤ most := by simpa using h
              omega
            refine Cd.exit (id := 2) ?_
            exact ⟨n, ⟨rfl, rfl, rfl, rfl, trivial⟩, rfl, fun h' => by omega, hq2⟩
        | false =>
          have hje : j = b.ins.length := by
            have : ¬ (j : Int) < b.ins.length := by simpa using h8
            omega
          refine Cd.region ?_
          refine Ol.p mvi ?_
          refine Ol.p mvs ?_
          refine Ol.p mvi ?_
          refine Ol.p (ixn sl_L_api_Block hsl) ?_
          refine Ol.p (fdp fd_api_Block_0) ?_
          refine Ol.p (ld one_L_api_Ins (Rd.slc hf.blocks hc0)) ?_
          refine Ol.p (lens sl_L_api_Ins) ?_
          refine Ol.p lsi ?_
          refine Ol.p mvb ?_
          refine Ol.gn h8 ?_
          refine Ol.gn h8 ?_
          refine Ol.gn h8 ?_
          refine Ol.p (pkFb h8) ?_
          refine Ol.nil ?_
          refine Cd.cond rfl (fun h => by cases h) (fun h => ?_)
          refine Cd.exit (id := 2) ?_
          refine ⟨n, ⟨rfl, rfl, rfl, rfl, trivial⟩, rfl, fun h' => ?_, hq2⟩
          rw [hq1 h', hje, List.take_length, blocksSz_snoc hb]
          unfold bsz; omega
      · rintro σ' _ ⟨n', hs', rfl, hn'⟩
        refine Cd.has hs' ?_
        refine Cd.region ?_
        refine Ol.p mvi ?_
        refine Ol.p addi ?_
        refine Ol.p asi ?_
        refine Ol.nil ?_
        exact ⟨f.blocks.length - (k + 1), by omega, k + 1, n', rfl, by omega, ⟨rfl, rfl, rfl, rfl, trivial⟩, rfl, hn'⟩
    · have hgt : most < n := by
        have : ¬ (n : Int) ≤ most := by simpa using h
        omega
      refine Cd.exit (id := 0) ?_
      refine Cd.seq ?_
      refine Cd.region ?_
      refine Ol.p mvi ?_
      refine Ol.p asi ?_
      refine Ol.nil ?_
      exact Cd.ret ⟨.int .i64 _, ret1 rfl rfl, [], .nil, n, rfl, ⟨fun h' => by omega, hn2⟩, rfl⟩
  | false =>
    have hke : k = f.blocks.length := by
      have : ¬ (k : Int) < f.blocks.length := by simpa using h4
      omega
    subst hke
    refine Cd.region ?_
    refine Ol.p mvi ?_
    refine Ol.p mvs ?_
    refine Ol.p (lens sl_L_api_Block) ?_
    refine Ol.p lsi ?_
    refine Ol.p mvb ?_
    refine Ol.gn h4 ?_
    refine Ol.gn h4 ?_
    refine Ol.gn h4 ?_
    refine Ol.p (pkFb h4) ?_
    refine Ol.nil ?_
    refine Cd.cond rfl (fun h => by cases h) (fun h => ?_)
    refine Cd.exit (id := 0) ?_
    refine Cd.seq ?_
    refine Cd.region ?_
    refine Ol.p mvi ?_
    refine Ol.p asi ?_
    refine Ol.nil ?_
    rw [List.take_length] at hn1
    exact Cd.ret ⟨.int .i64 _, ret1 rfl rfl, [], .nil, n, rfl, ⟨hn1, hn2⟩, rfl⟩
theorem kit_FuncOf_ct {w : World} {f : RFun} {most : Nat} (hf : FunAt w w.heap.size f) (hfit : Fit f) (hm : most < 2 ^ 40) : Ct Tryz.prog 7 #[f.val, .int .i64 most] w (fun v R => ∃ n : Nat, v = .int .i64 n ∧ (n ≤ most → n = f.sz) ∧ n < 2 ^ 56 ∧ R = []) := by
  have hpl := hfit.plen
  refine Ct.mk Tryz.func7 rfl rfl ?_
  refine Cd.seq ?_
  refine Cd.region ?_
  refine Ol.x bxg ?_
  rintro _ _ ⟨g2, rfl, rfl⟩
  refine Ol.p asi ?_
  refine Ol.nil ?_
  refine Cd.seq ?_
  refine Cd.draw mixed 8 (fun j => match j with | 6 => some (fun v R => ∃ n : Nat, v = .int .i64 n ∧ Counted n most (blocksSz f.blocks) ∧ R = []) | _ => none) (fun _ => []) (by kernel_rfl) (by intro j V h; split at h <;> cases h; obtain ⟨n, hn⟩ := counted_ex hm (blocksSz f.blocks); exact ⟨_, _, n, rfl, hn, rfl⟩) (fun u hu => ?_)
  refine Wk.p (fdl fd_api_Func_0) ?_
  refine Wk.p (ld one_L_int (Rd.blk (i := 0) rfl rfl)) ?_
  refine Wk.p (lens sl_L_int) ?_
  refine Wk.p (fdl fd_api_Func_1) ?_
  refine Wk.p (ld one_L_api_Block (Rd.blk (i := 0) rfl rfl)) ?_
  refine Wk.p mvi ?_
  refine Wk.x hu (sp_call en_kit_BlocksOf (fun M w' hh => kit_BlocksOf_ct (hf.now hh) hfit hm)) ?_
  rintro _ _ hu6 ⟨n, rfl, ⟨hn1, hn2⟩, rfl⟩
  refine Wk.p addi ?_
  refine Wk.nil ?_
  rw [needs_cons hu6, needs_none]
  refine Ol.p asi ?_
  refine Ol.nil ?_
  exact Cd.ret ⟨.int .i64 _, ret1 rfl rfl, [], .nil, f.params.length + n, rfl, fun h' => by rw [hn1 (by omega)]; rfl, by omega, rfl⟩
end
end Go.Proofs.YtkefmjhagmacfaaGreatDoor

/- Functions that are not great: plain laws. -/
namespace Go.Proofs.YtkefmjhagmacfaaGreatDoor
set_option linter.unusedVariables false
open Go Go.RowKit
theorem siz_arg : ∀ {l : List RIns} {i : RIns}, i ∈ l → i.args.length ≤ argSum l
  | [], _, h => by cases h
  | a :: l, i, h => by
    have e : argSum (a :: l) = a.args.length + argSum l := by simp [argSum]
    rcases List.mem_cons.1 h with rfl | h
    · omega
    · have := siz_arg h; omega
theorem siz_blk : ∀ {l : List RBlk} {b : RBlk}, b ∈ l → bsz b ≤ blocksSz l
  | [], _, h => by cases h
  | a :: l, b, h => by
    have e : blocksSz (a :: l) = bsz a + blocksSz l := by simp [blocksSz]
    rcases List.mem_cons.1 h with rfl | h
    · omega
    · have := siz_blk h; omega
theorem siz_len : ∀ l : List RBlk, l.length ≤ blocksSz l
  | [] => by simp
  | a :: l => by
    have e : blocksSz (a :: l) = bsz a + blocksSz l := by simp [blocksSz]
    have := siz_len l
    have h2 : 1 ≤ bsz a := by unfold bsz; omega
    simp only [List.length_cons]; omega
theorem siz_alen {f : RFun} {n : Nat} (h : f.sz ≤ n) : ∀ b ∈ f.blocks, ∀ i ∈ b.ins, i.args.length ≤ n := fun b hb i hi => by
  have h0 : f.params.length + blocksSz f.blocks ≤ n := h
  have := siz_blk hb
  have h3 := siz_arg hi
  unfold bsz at this; omega
theorem siz_ilen {f : RFun} {n : Nat} (h : f.sz ≤ n) : ∀ b ∈ f.blocks, b.ins.length ≤ n := fun b hb => by
  have h0 : f.params.length + blocksSz f.blocks ≤ n := h
  have := siz_blk hb
  unfold bsz at this; omega
theorem siz_blen {f : RFun} {n : Nat} (h : f.sz ≤ n) : f.blocks.length ≤ n ∧ f.params.length ≤ n := by
  have h0 : f.params.length + blocksSz f.blocks ≤ n := h
  have := siz_len f.blocks
  omega
theorem BlksIn.of_siz {w : World} {f : RFun} {n : Nat} (hf : FunAt w w.heap.size f) (h : f.sz ≤ n) (hn : n < 2 ^ 30) : BlksIn w w.heap.size f.bA f.blocks := by
  have h1 := siz_blen h
  refine ⟨hf.blocks, hf.ins, hf.args, by omega, fun b hb => ?_, fun b hb i hi => ?_⟩
  · have := siz_ilen h b hb
    omega
  · have := siz_alen h b hb i hi
    omega
theorem siz_terms {f g : RFun} (hb : g.bare = f.bare) : g.terms = f.terms := by
  have e : ∀ x : RFun, x.terms = x.bare.blocks.map RBlk.term := fun x => by
    show x.blocks.map RBlk.term = (x.blocks.map RBlk.bare).map RBlk.term
    rw [List.map_map]
    rfl
  rw [e, hb, ← e]
end Go.Proofs.YtkefmjhagmacfaaGreatDoor

/- The law 10: FlowTells, walked. -/
namespace Go.Proofs.YtkefmjhagmacfaaGreatDoor
set_option linter.unusedVariables false
set_option linter.unusedSimpArgs false
open Go Go.RowKit
set_option maxRecDepth 100000
section
theorem ed_ints {x y : Ed} : decide ([x.src, x.arm, x.to] = [y.src, y.arm, y.to]) = decide (x = y) := by
  refine decide_eq_decide.2 ⟨fun h => ?_, fun h => by rw [h]⟩
  injection h with h1 h
  injection h with h2 h
  injection h with h3 _
  cases x; cases y
  simp_all
theorem law10_same_ct {w : World} {A B : Option Addr} {c d : Nat} {a b : List Ed} (ha : Reads w w.heap.size 3 A a.length (edV a)) (hb : Reads w w.heap.size 3 B b.length (edV b)) (hal : a.length < 2 ^ 40) (hbl : b.length < 2 ^ 40) :
    Ct Tryz.prog 13 #[.slice A a.length c, .slice B b.length d] w (Is (.bool (decide (a = b)))) := by
  refine Ct.mk Tryz.func13 rfl rfl ?_
  refine Cd.seq ?_
  refine Cd.region ?_
  refine Ol.p asb ?_
  refine Ol.nil ?_
  refine Cd.seq ?_
  refine Cd.seq ?_
  refine Cd.region ?_
  refine Ol.p mvs ?_
  refine Ol.p (lens sl_L_api_Edge) ?_
  refine Ol.p mvs ?_
  refine Ol.p (lens sl_L_api_Edge) ?_
  refine Ol.p nei ?_
  refine Ol.nil ?_
  refine Cd.cond rfl (fun h => ?_) (fun h => ?_)
  · have h : (!decide ((a.length : Int) = (b.length : Int))) = true := h
    have hne : a ≠ b := fun e => by rw [e] at h; simp at h
    rw [decide_eq_false hne]
    refine Cd.seq ?_
    refine Cd.region ?_
    refine Ol.p asb ?_
    refine Ol.nil ?_
    exact Cd.ret ⟨.bool false, ret1 rfl rfl, [], .nil, rfl, rfl⟩
  have hl : a.length = b.length := by
    have h : (!decide ((a.length : Int) = (b.length : Int))) = false := h
    have : (a.length : Int) = (b.length : Int) := by simpa using h
    omega
  refine Cd.skip ?_
  refine Cd.seq ?_
  refine Cd.seq ?_
  refine Cd.region ?_
  refine Ol.p asi ?_
  refine Ol.nil ?_
  refine Cd.block ?_   -- 0
  refine Cd.loop (fun m σ L => ∃ k, m = a.length - k ∧ k ≤ a.length ∧ a.take k = b.take k ∧ Has σ [(0, .slice A a.length c), (1, .slice B b.length d), (5, .int .i64 k)] ∧ [] = L) (n := a.length) ⟨0, rfl, Nat.zero_le _, by simp, ⟨rfl, rfl, rfl, trivial⟩, rfl⟩ ?_
  rintro _ σ L ⟨k, rfl, hk, hkk, hs, rfl⟩
  refine Cd.has hs ?_
  clear hs
  refine Cd.seq ?_
  refine Cd.seq ?_
  refine Cd.region ?_
  refine Ol.p mvi ?_
  refine Ol.p mvs ?_
  refine Ol.p (lens sl_L_api_Edge) ?_
  refine Ol.p lsi ?_
  refine Ol.nil ?_
  refine Cd.cond rfl (fun h => ?_) (fun h => ?_)
  · have hlt := lt_of h
    obtain ⟨x, hx⟩ : ∃ x, a[k]? = some x := ⟨_, List.getElem?_eq_getElem hlt⟩
    obtain ⟨y, hy⟩ : ∃ y, b[k]? = some y := ⟨_, List.getElem?_eq_getElem (by omega)⟩
    refine Cd.skip ?_
    refine Cd.seq ?_
    refine Cd.block ?_
    refine Cd.seq ?_
    refine Cd.draw mixed 9 (fun _ => none) (fun _ => []) (by kernel_rfl) (fun _ _ h => by cases h) (fun u hu => ?_)
    refine Wk.p mvs ?_
    refine Wk.p mvi ?_
    refine Wk.p (ixn (ix := k) sl_L_api_Edge (Som.slc ha (by omega))) ?_
    refine Wk.p (lds (es := x.cells) ag_api_Edge ha x.len (fun j u hu => edV_at hx hu)) ?_
    refine Wk.p mvs ?_
    refine Wk.p mvi ?_
    refine Wk.p (ixn (ix := k) sl_L_api_Edge (Som.slc hb (by omega))) ?_
    refine Wk.p (lds (es := y.cells) ag_api_Edge hb y.len (fun j u hu => edV_at hy hu)) ?_
    refine Wk.p (nes (n := 3) (a := [x.src, x.arm, x.to]) (b := [y.src, y.arm, y.to]) st_api_Edge rfl rfl) ?_
    refine Wk.nil ?_
    refine Ol.nil ?_
    rw [ed_ints]
    refine Cd.cond rfl (fun h => ?_) (fun h => ?_)
    · have h : (!decide (x = y)) = true := h
      have hxy : x ≠ y := by simpa using h
      have hne : a ≠ b := fun e => by
        rw [e, hy] at hx
        exact hxy (Option.some.inj hx).symm
      rw [decide_eq_false hne]
      refine Cd.seq ?_
      refine Cd.region ?_
      refine Ol.p asb ?_
      refine Ol.nil ?_
      exact Cd.ret ⟨.bool false, ret1 rfl rfl, [], .nil, rfl, rfl⟩
    have h : (!decide (x = y)) = false := h
    have hxy : x = y := by simpa using h
    refine Cd.skip ?_
    refine Cd.region ?_
    refine Ol.p mvi ?_
    refine Ol.p addi ?_
    refine Ol.p asi ?_
    refine Ol.nil ?_
    exact ⟨a.length - (k + 1), by omega, k + 1, rfl, by omega, by rw [take_snoc_ hx, take_snoc_ hy, hkk, hxy], ⟨rfl, rfl, rfl, trivial⟩, rfl⟩
  have hke : k = a.length := by
    have := ge_of_ h
    omega
  have hab : a = b := by
    rw [hke, List.take_length, hl, List.take_length] at hkk
    exact hkk
  rw [decide_eq_true hab]
  refine Cd.exit (id := 0) ?_
  refine Cd.seq ?_
  refine Cd.region ?_
  refine Ol.p asb ?_
  refine Ol.nil ?_
  exact Cd.ret ⟨.bool true, ret1 rfl rfl, [], .nil, rfl, rfl⟩
theorem law10_same_self {w : World} {A B : Option Addr} {c d : Nat} {a : List Ed} (ha : Reads w w.heap.size 3 A a.length (edV a)) (hb : Reads w w.heap.size 3 B a.length (edV a)) (hal : a.length ≤ 400) :
    Ct Tryz.prog 13 #[.slice A a.length c, .slice B a.length d] w (Is (.bool true)) := by
  have := law10_same_ct (c := c) (d := d) ha hb (by omega) (by omega)
  rw [decide_eq_true rfl] at this
  exact this
end
theorem kit_SameInts_self {w : World} {A B : Option Addr} {c d : Nat} {a : List Int} (ha : Reads w w.heap.size 1 A a.length (ints a)) (hb : Reads w w.heap.size 1 B a.length (ints a)) (hal : a.length < 2 ^ 40) :
    Ct Tryz.prog 24 #[.slice A a.length c, .slice B a.length d] w (Is (.bool true)) := by
  have := kit_SameInts_ct (c := c) (d := d) ha hb (by omega) (by omega)
  rw [decide_eq_true rfl] at this
  exact this
section
/-- A list that is one's own, wherever it begins. -/
def PartO (l : List Int) : Value → List Res → Prop := fun v L => ∃ (A : Option Addr) (c : Nat) (R : Res), v = .slice A l.length c ∧ L = [R] ∧ (∀ k m, OwnP k 0 ⟨A, l.length, m, c⟩ R) ∧ ∀ w0 B, RdS w0 B [R] 1 A l.length (ints l)
theorem partO_in (l : List Int) : ∃ v L, PartO l v L :=
  ⟨_, _, some ⟨0, 0, none⟩, l.length, _, rfl, rfl, fun k m => .inr ⟨0, 0, (ints l).toArray, rfl, rfl, Nat.le_refl _, by simp [ints], fun j hj => by omega⟩, fun w0 B => RdS.blk (i := 0) rfl (by simp [ints]) (fun j u hu => by simpa using hu)⟩
theorem flow_Order_ct3 {w : World} {f : RFun} {ol : List Int} (ho : ints ol = intsN (orderF f.terms)) (hf : FunAt w w.heap.size f) (hfit : Fit f) : Ct Tryz.prog 22 #[f.val] w (PartO ol) := by
  have hl : (orderF f.terms).length = ol.length := by
    have := congrArg List.length ho
    simpa [ints, intsN] using this.symm
  refine CallsIn.mono (flow_Order_ct2 hf hfit) fun e w' ⟨v, he, L, hh, hR⟩ => ⟨v, he, ?_⟩
  rw [← ho, hl] at hR
  rcases hR with ⟨h0, h1, rfl, rfl⟩ | ⟨g, k, c, cs, rfl, rfl, h1, ⟨h2, h3⟩, h4⟩
  · have hn : ol = [] := List.eq_nil_of_length_eq_zero h0
    subst hn
    exact ⟨[row (.slice none 0 0) 3 1 0 []], Hp.nr (M := []) (L := []) hh, none, 0, _, rfl, rfl, fun k m => .inl ⟨rfl, rfl, rfl, rfl⟩, fun w0 B => RdS.nil⟩
  · exact ⟨_, hh, some ⟨g, k, none⟩, c, _, rfl, rfl, fun q m => .inr ⟨g, k, cs, rfl, rfl, h2, h3, fun j hj => by omega⟩, fun w0 B => RdS.blk (i := 0) rfl h1 h4⟩
end
section
theorem kit_Apart4 {w0 : World} {B cL : Nat} {AL : Option Addr} {x y z u : Li} {R1 R2 : Res} {Z U : List Value} (hx : ∀ k, OwnP k 0 x R1) (hy : ∀ k, OwnP k 0 y R2) (hz : Z.length = z.m ∧ z.n ≤ z.m) (hu : U.length = u.m ∧ u.n ≤ u.m) (hs : x.n < 2 ^ 39 ∧ y.n < 2 ^ 39 ∧ z.n < 2 ^ 39 ∧ u.n < 2 ^ 39) :
    Cm Tryz.prog 29 #[.slice AL 4 cL] w0 B [row (.slice AL 4 cL) 22 1 4 [.slice x.A x.n x.c, .slice y.A y.n y.c, .slice z.A z.n z.c, .slice u.A u.n u.c], R1, R2, rowL z Z, rowL u U] (Is (.bool true)) := fun M w hh => by
  obtain ⟨hd, hhd⟩ : ∃ hd, hd = row (.slice AL 4 cL) 22 1 4 [.slice x.A x.n x.c, .slice y.A y.n y.c, .slice z.A z.n z.c, .slice u.A u.n u.c] := ⟨_, rfl⟩
  rw [← hhd] at hh
  have h1 : Hp w0 B ((M ++ [hd, R1, R2]) ++ (rowL z Z :: [rowL u U])) w := by
    rw [List.append_assoc]
    exact hh
  obtain ⟨R3, h3, h2⟩ := Hp.ownP (k := 2) h1 hz.1 hz.2
  have h4 : Hp w0 B ((M ++ [hd, R1, R2, R3]) ++ (rowL u U :: [])) w := by
    rw [List.append_assoc] at h2 ⊢
    exact h2
  obtain ⟨R4, h5, h6⟩ := Hp.ownP (k := 3) h4 hu.1 hu.2
  have h7 : Hp w0 B (M ++ (hd :: [R1, R2, R3, R4])) w := by
    rw [List.append_assoc] at h6
    exact h6
  have key : ∀ k, k < 4 → k = 0 ∨ k = 1 ∨ k = 2 ∨ k = 3 := fun k hk => by omega
  rw [hhd] at h7
  refine kit_ApartRes_cm (N := 4) (it := fun k => if k = 0 then x else if k = 1 then y else if k = 2 then z else u) (R0 := fun k => if k = 0 then R1 else if k = 1 then R2 else if k = 2 then R3 else R4) (by omega) ?_ ?_ M w h7
  · intro k hk
    rcases key k hk with rfl | rfl | rfl | rfl
    · exact hx 0
    · exact hy 1
    · exact h3
    · exact h5
  · intro k hk
    rcases key k hk with rfl | rfl | rfl | rfl
    · exact hs.1
    · exact hs.2.1
    · exact hs.2.2.1
    · exact hs.2.2.2
set_option maxHeartbeats 8000000 in
theorem law10_FlowTells_ct {w : World} {f : RFun} {b : Int} {A1 A2 : Option Addr} {c1 c2 : Nat} {fr nt : List Int} (hT : Tabs w w.heap.size) (hf : FunAt w w.heap.size f) (hfit : Fit f) (hfr : Reads w w.heap.size 1 A1 fr.length (ints fr)) (hnt : Reads w w.heap.size 1 A2 nt.length (ints nt)) (hi1 : ∀ n ∈ fr, I64 n) (hi2 : ∀ n ∈ nt, I64 n) (hl1 : fr.length < 2 ^ 60) (hl2 : nt.length < 2 ^ 60) :
    Ct Tryz.prog 3 #[f.val, .int .i64 b, .slice A1 fr.length c1, .slice A2 nt.length c2] w (Is (.bool true)) := by
  refine Ct.mk Tryz.func3 rfl rfl ?_
  refine Cd.seq ?_
  refine Cd.region ?_
  refine Ol.x bxg ?_
  rintro _ _ ⟨g4, rfl, rfl⟩
  refine Ol.p asb ?_
  refine Ol.nil ?_
  refine Cd.seq ?_
  refine Cd.seq ?_
  refine Cd.region ?_
  refine Ol.p (ldw (cs := f.cells.toArray) ag_api_Func (i := 0) rfl rfl) ?_
  refine Ol.x (sp_call (vs := [f.val, .int .i64 500]) en_kit_FuncOf (fun M w' hh => kit_FuncOf_ct (hf.now hh) hfit (most := 500) (by decide))) ?_
  rintro _ _ ⟨_, rfl, N, rfl, hN1, hN2, rfl⟩
  refine Ol.p mvs ?_
  refine Ol.p (lens sl_L_int) ?_
  refine Ol.p addi ?_
  refine Ol.p mvs ?_
  refine Ol.p (lens sl_L_int) ?_
  refine Ol.p addi ?_
  refine Ol.p gti ?_
  refine Ol.nil ?_
  refine Cd.cond rfl (fun h => ?_) (fun h => ?_)
  · refine Cd.seq ?_
    refine Cd.region ?_
    refine Ol.s (cl en_law10_awake (fun M w' hh => law10_awake_ct)) ?_
    refine Ol.p asb ?_
    refine Ol.nil ?_
    exact Cd.ret ⟨.bool true, ret1 rfl rfl, [], Keep.nil, rfl, rfl⟩
  obtain ⟨hsz, hfl, hnl⟩ : f.sz ≤ 500 ∧ fr.length ≤ 500 ∧ nt.length ≤ 500 := by
    have h : decide ((500 : Int) < (N : Int) + fr.length + nt.length) = false := h
    have := of_decide_eq_false h
    have h2 := hN1 (by omega)
    omega
  clear h hN1 hN2
  have hbi : BlksIn w w.heap.size f.bA f.blocks := BlksIn.of_siz hf hsz (by omega)
  obtain ⟨hbl, hpl⟩ := siz_blen hsz
  have h40 : ∀ b ∈ f.blocks, ∀ i ∈ b.ins, i.args.length < 2 ^ 40 := fun b hb i hi => by
    have := siz_alen hsz b hb i hi
    omega
  refine Cd.skip ?_
  refine Cd.seq ?_
  refine Cd.region ?_
  refine Ol.p (ldw (cs := f.cells.toArray) ag_api_Func (i := 0) rfl rfl) ?_
  refine Ol.x (sp_call (vs := [f.val]) en_kit_LentFunc (fun M w' hh => kit_LentFunc_ct (hf.now hh) (by omega) (hbi.now hh) h40)) ?_
  rintro _ _ ⟨X, rfl, g, hb, rfl, hX⟩
  have hfc : FitC g := FitC.same hfit.c hb
  refine Ol.keep (L' := blk g4 (.cells f.cells.toArray 25) :: funLent g) ⟨[], by rw [List.append_nil]; exact List.perm_append_comm.trans (hX.cons _)⟩ ?_
  refine Ol.p mvs ?_
  refine Ol.x (sp_call (vs := [.slice A1 fr.length c1]) en_kit_LentInts (fun M w' hh => kit_LentInts_ct (hfr.now hh) (by omega))) ?_
  rintro _ _ ⟨_, rfl, A29, c29, rfl, rfl⟩
  refine Ol.p mvs ?_
  refine Ol.x (sp_call (vs := [.slice A2 nt.length c2]) en_kit_LentInts (fun M w' hh => kit_LentInts_ct (hnt.now hh) (by omega))) ?_
  rintro _ _ ⟨_, rfl, A31, c31, rfl, rfl⟩
  refine Ol.x (alc zr_api_Func) ?_
  rintro _ _ ⟨g9, rfl, rfl⟩
  refine Ol.s (stw (vs := g.cells.toArray) sz_api_Func rfl (by intro u hu; simp [RFun.cells] at hu; rcases hu with rfl | rfl <;> rfl) (i := 0) rfl rfl) ?_
  refine Ol.p ass ?_
  refine Ol.p ass ?_
  refine Ol.nil ?_
  obtain ⟨LQ, hLQ⟩ : ∃ LQ, LQ = lInt A31 c31 nt :: lInt A29 c29 fr :: funLent g := ⟨_, rfl⟩
  obtain ⟨LB, hLB⟩ : ∃ LB, LB = blk g9 (.cells g.cells.toArray 25) :: blk g4 (.cells f.cells.toArray 25) :: LQ := ⟨_, rfl⟩
  refine Cd.keep (L' := LB) (keep_count [] fun _ x => by
    rw [hLB, hLQ]
    simp only [List.set_cons_succ, List.set_cons_zero, List.count_append, List.count_cons, List.count_nil, List.cons_append, List.nil_append, List.append_nil]
    omega) ?_
  have h9 : LB[0]? = some (blk g9 (.cells g.cells.toArray 25)) := by rw [hLB]; rfl
  have h4 : LB[1]? = some (blk g4 (.cells f.cells.toArray 25)) := by rw [hLB]; rfl
  have hQ : ∀ {M L : List Res} {w' : World}, (∀ r ∈ LB, r ∈ L) → Hp w w.heap.size (M ++ L) w' → LentAt w' w'.heap.size g ∧ (Reads w' w'.heap.size 1 A29 (fr.length + 12) (ints (fr ++ mkL 12)) ∧ fr.length + 12 ≤ c29) ∧ Reads w' w'.heap.size 1 A31 (nt.length + 12) (ints (nt ++ mkL 12)) ∧ nt.length + 12 ≤ c31 := fun {M L w'} hs hh => by
    have hs' : ∀ r ∈ LQ, r ∈ L := fun r hr => hs r (by rw [hLB]; exact List.mem_cons_of_mem _ (List.mem_cons_of_mem _ hr))
    have key : ∀ {A : Option Addr} {c : Nat} {l : List Int}, lInt A c l ∈ LQ → Reads w' w'.heap.size 1 A (l.length + 12) (ints (l ++ mkL 12)) ∧ l.length + 12 ≤ c := fun hm => by
      obtain ⟨i, hi⟩ := List.mem_iff_getElem?.1 (hs' _ hm)
      exact ⟨Reads.row hh (i := i) hi, cap_row (hh.at_ hi)⟩
    exact ⟨LentAt.own hh (fun r hr => hs' r (by rw [hLQ]; exact List.mem_cons_of_mem _ (List.mem_cons_of_mem _ hr))), key (A := A29) (c := c29) (l := fr) (by rw [hLQ]; simp), key (A := A31) (c := c31) (l := nt) (by rw [hLQ]; simp)⟩
  have hg : ∀ {M : List Res} {w' : World}, Hp w w.heap.size (M ++ LB) w' → FunAt w' w'.heap.size g ∧ Fit g := fun hh => ⟨(hQ (fun r h => h) hh).1.fun_, (hQ (fun r h => h) hh).1.fit hfc⟩
  have hts := siz_terms hb
  -- what each call tells
  obtain ⟨cB, hcB⟩ : ∃ cB, cB = closed f.terms := ⟨_, rfl⟩
  obtain ⟨E1, hE1⟩ : ∃ E, E = someE f.terms fun _ => true := ⟨_, rfl⟩
  obtain ⟨E2, hE2⟩ : ∃ E, E = someE f.terms fun e => decide (e.to = b) := ⟨_, rfl⟩
  obtain ⟨E3, hE3⟩ : ∃ E, E = someE f.terms fun e => decide (e.src = b) := ⟨_, rfl⟩
  obtain ⟨E4, hE4⟩ : ∃ E, E = someE f.terms (critE f.terms) := ⟨_, rfl⟩
  have l1 : E1.length ≤ 400 := by rw [hE1]; exact someE_len_le _ _
  have l2 : E2.length ≤ 400 := by rw [hE2]; exact someE_len_le _ _
  have l3 : E3.length ≤ 400 := by rw [hE3]; exact someE_len_le _ _
  have l4 : E4.length ≤ 400 := by rw [hE4]; exact someE_len_le _ _
  obtain ⟨ol, hol, holn⟩ : ∃ ol : List Int, ints ol = intsN (orderF f.terms) ∧ ol.length = (orderF f.terms).length := ⟨(orderF f.terms).map fun (n : Nat) => (n : Int), by simp [ints, intsN], by simp⟩
  obtain ⟨rl, hrl, hrln⟩ : ∃ rl : List Int, ints rl = intsN (reachedF f.terms fr nt) ∧ rl.length = (reachedF f.terms fr nt).length := ⟨(reachedF f.terms fr nt).map fun (n : Nat) => (n : Int), by simp [ints, intsN], by simp⟩
  have hol40 : ol.length < 2 ^ 30 := by
    rw [holn]
    cases hc : closed f.terms with
    | true => have := order_len_le hc; have := (closed_le hc).2; omega
    | false => rw [show orderF f.terms = [] by unfold orderF; rw [hc]; rfl]; decide
  have hrl40 : rl.length < 2 ^ 30 := by
    rw [hrln]
    unfold reachedF
    cases closed f.terms
    · show ([] : List Nat).length < 2 ^ 30
      decide
    · rw [cond_true]
      have := upto_len_le (reachS f.terms (lessL (allS f.terms.length) nt) (lessL (allS f.terms.length) nt &&& ofL fr)) 1024
      unfold listS
      omega
  have k0 : ∀ w', FunAt w' w'.heap.size g → Fit g → Ct Tryz.prog 11 #[g.val] w' (Is (.bool cB)) := fun w' a1 a2 => by rw [hcB, ← hts]; exact flow_Closed_ct a1 a2
  have k1 : ∀ w', FunAt w' w'.heap.size g → Fit g → Ct Tryz.prog 14 #[g.val] w' (NewL 58 3 E1.length (edV E1)) := fun w' a1 a2 => by rw [hE1, ← hts]; exact flow_Edges_ct a1 a2
  have k2 : ∀ w', FunAt w' w'.heap.size g → Fit g → Ct Tryz.prog 16 #[g.val, .int .i64 b] w' (NewL 58 3 E2.length (edV E2)) := fun w' a1 a2 => by rw [hE2, ← hts]; exact flow_Into_ct a1 a2
  have k3 : ∀ w', FunAt w' w'.heap.size g → Fit g → Ct Tryz.prog 18 #[g.val, .int .i64 b] w' (NewL 58 3 E3.length (edV E3)) := fun w' a1 a2 => by rw [hE3, ← hts]; exact flow_From_ct a1 a2
  have k4 : ∀ w', FunAt w' w'.heap.size g → Fit g → Ct Tryz.prog 20 #[g.val] w' (NewL 58 3 E4.length (edV E4)) := fun w' a1 a2 => by rw [hE4, ← hts]; exact flow_Critical_ct a1 a2
  have k5 : ∀ w', FunAt w' w'.heap.size g → Fit g → Ct Tryz.prog 22 #[g.val] w' (PartO ol) := fun w' a1 a2 => flow_Order_ct3 (by rw [hts]; exact hol) a1 a2
  have k6 : ∀ w', Tabs w' w'.heap.size → FunAt w' w'.heap.size g → Fit g → Reads w' w'.heap.size 1 A29 fr.length (ints fr) → Reads w' w'.heap.size 1 A31 nt.length (ints nt) → Ct Tryz.prog 23 #[g.val, .slice A29 fr.length c29, .slice A31 nt.length c31] w' (NewL 3 1 rl.length (ints rl)) := fun w' a0 a1 a2 a3 a4 => by
    have := flow_Reached_ct (c1 := c29) (c2 := c31) a0 a1 a2 a3 a4 hi1 hi2 hl1 hl2
    rw [hts, ← hrl, ← hrln] at this
    exact this
  have r1 : ∀ w', FunAt w' w'.heap.size f → Ct Tryz.prog 15 #[f.val] w' (NewL 58 3 E1.length (edV E1)) := fun w' a1 => by rw [hE1]; exact ref10_Edges_ct a1 hfit
  have r2 : ∀ w', FunAt w' w'.heap.size f → Ct Tryz.prog 17 #[f.val, .int .i64 b] w' (NewL 58 3 E2.length (edV E2)) := fun w' a1 => by rw [hE2]; exact ref10_Into_ct a1 hfit
  have r3 : ∀ w', FunAt w' w'.heap.size f → Ct Tryz.prog 19 #[f.val, .int .i64 b] w' (NewL 58 3 E3.length (edV E3)) := fun w' a1 => by rw [hE3]; exact ref10_From_ct a1 hfit
  have r4 : ∀ w', FunAt w' w'.heap.size f → Ct Tryz.prog 21 #[f.val] w' (NewL 58 3 E4.length (edV E4)) := fun w' a1 => by rw [hE4]; exact ref10_Critical_ct a1 hfit
  have r5 : ∀ w', FunAt w' w'.heap.size f → Ct Tryz.prog 25 #[f.val] w' (NewL 3 1 ol.length (ints ol)) := fun w' a1 => by
    have := ref10_Order_ct a1 hfit
    rw [← hol, ← holn] at this
    exact this
  have r6 : ∀ w', FunAt w' w'.heap.size f → Reads w' w'.heap.size 1 A1 fr.length (ints fr) → Reads w' w'.heap.size 1 A2 nt.length (ints nt) → Ct Tryz.prog 26 #[f.val, .slice A1 fr.length c1, .slice A2 nt.length c2] w' (NewL 3 1 rl.length (ints rl)) := fun w' a1 a2 a3 => by
    have := ref10_Reached_ct (c1 := c1) (c2 := c2) a1 hfit a2 a3 hl1 hl2
    rw [← hrl, ← hrln] at this
    exact this
  have q5 : decide (cB = cB) = true := by simp
  clear hE1 hE2 hE3 hE4
  refine Cd.mid (fun σ' L' => Has σ' [(2, .slice A1 fr.length c1), (3, .slice A2 nt.length c2), (4, .pointer (some ⟨g4, 0, none⟩)), (9, .pointer (some ⟨g9, 0, none⟩)), (10, .slice A29 fr.length c29), (11, .slice A31 nt.length c31), (12, .bool true)] ∧ Keep L' LB) ?_ ?_
  · skip
    refine Cd.draw mixed 38 (fun opNo => match opNo with | 1 => some (Is (.bool cB)) | 3 => some (Is (.bool cB)) | 7 => some (NewL 58 3 E1.length (edV E1)) | 9 => some (NewL 58 3 E1.length (edV E1)) | 10 => some (Is (.bool true)) | 15 => some (NewL 58 3 E2.length (edV E2)) | 18 => some (NewL 58 3 E2.length (edV E2)) | 19 => some (Is (.bool true)) | 24 => some (NewL 58 3 E3.length (edV E3)) | 27 => some (NewL 58 3 E3.length (edV E3)) | 28 => some (Is (.bool true)) | 32 => some (NewL 58 3 E4.length (edV E4)) | 34 => some (NewL 58 3 E4.length (edV E4)) | 35 => some (Is (.bool true)) | _ => none) (fun opNo => match opNo with | 10 => [7, 9] | 19 => [15, 18] | 28 => [24, 27] | 35 => [32, 34] | _ => []) (by kernel_rfl) (by intro q V h; split at h <;> cases h; exact ⟨_, [], rfl, rfl⟩; exact ⟨_, [], rfl, rfl⟩; exact ⟨_, _, none, 0, rfl, rfl⟩; exact ⟨_, _, none, 0, rfl, rfl⟩; exact ⟨_, [], rfl, rfl⟩; exact ⟨_, _, none, 0, rfl, rfl⟩; exact ⟨_, _, none, 0, rfl, rfl⟩; exact ⟨_, [], rfl, rfl⟩; exact ⟨_, _, none, 0, rfl, rfl⟩; exact ⟨_, _, none, 0, rfl, rfl⟩; exact ⟨_, [], rfl, rfl⟩; exact ⟨_, _, none, 0, rfl, rfl⟩; exact ⟨_, _, none, 0, rfl, rfl⟩; exact ⟨_, [], rfl, rfl⟩) (fun u hu => ?_)
    refine Wk.p (ldw (cs := g.cells.toArray) ag_api_Func (i := 0) h9 rfl) ?_
    refine Wk.x (V := Is (.bool cB)) hu (sp_call (vs := [g.val]) en_flow_Closed (fun M w' hh => k0 w' (hg hh).1 (hg hh).2)) ?_
    rintro _ _ hu1 ⟨rfl, rfl⟩
    refine Wk.p (ldw (cs := f.cells.toArray) ag_api_Func (i := 1) h4 rfl) ?_
    refine Wk.x (V := Is (.bool cB)) hu (sp_call (vs := [f.val]) en_ref10_Closed (fun M w' hh => by rw [hcB]; exact ref10_Closed_ct (hf.now hh) hfit)) ?_
    rintro _ _ hu3 ⟨rfl, rfl⟩
    refine Wk.p (eqb bo_bool) ?_
    refine Wk.p mvb ?_
    refine Wk.gp q5 (ldw (cs := g.cells.toArray) ag_api_Func (i := 0) h9 rfl) ?_
    refine Wk.gx (V := NewL 58 3 E1.length (edV E1)) hu q5 (sp_call (vs := [g.val]) en_flow_Edges (fun M w' hh => k1 w' (hg hh).1 (hg hh).2)) ?_
    rintro _ _ hu7 ⟨A39, c39, rfl, rfl⟩
    refine Wk.gp q5 (ldw (cs := f.cells.toArray) ag_api_Func (i := 1) h4 rfl) ?_
    refine Wk.gx (V := NewL 58 3 E1.length (edV E1)) hu q5 (sp_call (vs := [f.val]) en_ref10_Edges (fun M w' hh => r1 w' (hf.now hh))) ?_
    rintro _ _ hu9 ⟨A41, c41, rfl, rfl⟩
    refine Wk.gxn (V := Is (.bool true)) hu q5 (l := [7, 9]) rfl (by simp) (by rw [needs_cons hu7, needs_cons hu9, needs_none]; exact (sp_call en_law10_same (fun M w' hh => law10_same_self (Reads.row hh (i := 0) rfl) (Reads.row hh (i := 1) rfl) l1))) ?_
    rintro _ _ hu10 ⟨rfl, rfl⟩
    refine Wk.p (pkTb q5) ?_
    refine Wk.p mvb ?_
    refine Wk.gp rfl (ldw (cs := g.cells.toArray) ag_api_Func (i := 0) h9 rfl) ?_
    refine Wk.gp rfl mvi ?_
    refine Wk.gx (V := NewL 58 3 E2.length (edV E2)) hu rfl (sp_call (vs := [g.val, .int .i64 b]) en_flow_Into (fun M w' hh => k2 w' (hg hh).1 (hg hh).2)) ?_
    rintro _ _ hu15 ⟨A47, c47, rfl, rfl⟩
    refine Wk.gp rfl (ldw (cs := f.cells.toArray) ag_api_Func (i := 1) h4 rfl) ?_
    refine Wk.gp rfl mvi ?_
    refine Wk.gx (V := NewL 58 3 E2.length (edV E2)) hu rfl (sp_call (vs := [f.val, .int .i64 b]) en_ref10_Into (fun M w' hh => r2 w' (hf.now hh))) ?_
    rintro _ _ hu18 ⟨A50, c50, rfl, rfl⟩
    refine Wk.gxn (V := Is (.bool true)) hu rfl (l := [15, 18]) rfl (by simp) (by rw [needs_cons hu15, needs_cons hu18, needs_none]; exact (sp_call en_law10_same (fun M w' hh => law10_same_self (Reads.row hh (i := 0) rfl) (Reads.row hh (i := 1) rfl) l2))) ?_
    rintro _ _ hu19 ⟨rfl, rfl⟩
    refine Wk.p (pkTb rfl) ?_
    refine Wk.p mvb ?_
    refine Wk.gp rfl (ldw (cs := g.cells.toArray) ag_api_Func (i := 0) h9 rfl) ?_
    refine Wk.gp rfl mvi ?_
    refine Wk.gx (V := NewL 58 3 E3.length (edV E3)) hu rfl (sp_call (vs := [g.val, .int .i64 b]) en_flow_From (fun M w' hh => k3 w' (hg hh).1 (hg hh).2)) ?_
    rintro _ _ hu24 ⟨A56, c56, rfl, rfl⟩
    refine Wk.gp rfl (ldw (cs := f.cells.toArray) ag_api_Func (i := 1) h4 rfl) ?_
    refine Wk.gp rfl mvi ?_
    refine Wk.gx (V := NewL 58 3 E3.length (edV E3)) hu rfl (sp_call (vs := [f.val, .int .i64 b]) en_ref10_From (fun M w' hh => r3 w' (hf.now hh))) ?_
    rintro _ _ hu27 ⟨A59, c59, rfl, rfl⟩
    refine Wk.gxn (V := Is (.bool true)) hu rfl (l := [24, 27]) rfl (by simp) (by rw [needs_cons hu24, needs_cons hu27, needs_none]; exact (sp_call en_law10_same (fun M w' hh => law10_same_self (Reads.row hh (i := 0) rfl) (Reads.row hh (i := 1) rfl) l3))) ?_
    rintro _ _ hu28 ⟨rfl, rfl⟩
    refine Wk.p (pkTb rfl) ?_
    refine Wk.p mvb ?_
    refine Wk.gp rfl (ldw (cs := g.cells.toArray) ag_api_Func (i := 0) h9 rfl) ?_
    refine Wk.gx (V := NewL 58 3 E4.length (edV E4)) hu rfl (sp_call (vs := [g.val]) en_flow_Critical (fun M w' hh => k4 w' (hg hh).1 (hg hh).2)) ?_
    rintro _ _ hu32 ⟨A64, c64, rfl, rfl⟩
    refine Wk.gp rfl (ldw (cs := f.cells.toArray) ag_api_Func (i := 1) h4 rfl) ?_
    refine Wk.gx (V := NewL 58 3 E4.length (edV E4)) hu rfl (sp_call (vs := [f.val]) en_ref10_Critical (fun M w' hh => r4 w' (hf.now hh))) ?_
    rintro _ _ hu34 ⟨A66, c66, rfl, rfl⟩
    refine Wk.gxn (V := Is (.bool true)) hu rfl (l := [32, 34]) rfl (by simp) (by rw [needs_cons hu32, needs_cons hu34, needs_none]; exact (sp_call en_law10_same (fun M w' hh => law10_same_self (Reads.row hh (i := 0) rfl) (Reads.row hh (i := 1) rfl) l4))) ?_
    rintro _ _ hu35 ⟨rfl, rfl⟩
    refine Wk.p (pkTb rfl) ?_
    refine Wk.p asb ?_
    refine Wk.nil ?_
    rw [needs_cons hu35, needs_cons hu34, needs_cons hu32, needs_cons hu28, needs_cons hu27, needs_cons hu24, needs_cons hu19, needs_cons hu18, needs_cons hu15, needs_cons hu10, needs_cons hu9, needs_cons hu7, needs_cons hu3, needs_cons hu1, needs_none]
    refine Ol.nil ?_
    exact ⟨⟨rfl, rfl, rfl, rfl, rfl, rfl, rfl, trivial⟩, .sub (.cons _ (.cons _ (.cons _ (.cons _ (.cons _ (.cons _ (.cons _ (.cons _ (List.Sublist.refl _)))))))))⟩
  rintro σ' L' ⟨hs', hkp⟩
  refine Cd.keep hkp ?_
  refine Cd.has hs' ?_
  clear hs' hkp k0 k1 k2 k3 k4 r1 r2 r3 r4
  refine Cd.seq ?_
  refine Cd.draw mixed 4 (fun opNo => match opNo with | 1 => some (PartO ol) | 3 => some (PartO ol) | _ => none) (fun _ => []) (by kernel_rfl) (by intro q V h; split at h <;> cases h; exact partO_in ol; exact partO_in ol) (fun u hu => ?_)
  refine Wk.p (ldw (cs := g.cells.toArray) ag_api_Func (i := 0) h9 rfl) ?_
  refine Wk.x (V := PartO ol) hu (sp_call (vs := [g.val]) en_flow_Order (fun M w' hh => k5 w' (hg hh).1 (hg hh).2)) ?_
  rintro _ _ hu1 ⟨A70, c70, R70, rfl, rfl, ho1, hp1⟩
  refine Wk.p (ldw (cs := g.cells.toArray) ag_api_Func (i := 0) h9 rfl) ?_
  refine Wk.x (V := PartO ol) hu (sp_call (vs := [g.val]) en_flow_Order (fun M w' hh => k5 w' (hg hh).1 (hg hh).2)) ?_
  rintro _ _ hu3 ⟨A72, c72, R72, rfl, rfl, ho2, hp2⟩
  refine Wk.nil ?_
  rw [needs_cons hu3, needs_cons hu1, needs_none]
  refine Ol.p ass ?_
  refine Ol.p ass ?_
  refine Ol.nil ?_
  show Cd _ _ _ _ (R72 :: R70 :: LB)
  have hin2 : ∀ r ∈ LB, r ∈ R72 :: R70 :: LB := fun r h => List.mem_cons_of_mem _ (List.mem_cons_of_mem _ h)
  refine Cd.seq ?_
  refine Cd.region ?_
  refine Ol.p (ldw (cs := g.cells.toArray) ag_api_Func (i := 2) h9 rfl) ?_
  refine Ol.p mvs ?_
  refine Ol.p mvs ?_
  refine Ol.x (sp_call (vs := [g.val, .slice A29 fr.length c29, .slice A31 nt.length c31]) (R := NewL 3 1 rl.length (ints rl)) en_flow_Reached (fun M w' hh => k6 w' (hT.now hh) (hQ hin2 hh).1.fun_ ((hQ hin2 hh).1.fit hfc) (hQ hin2 hh).2.1.1.lentI (hQ hin2 hh).2.2.1.lentI)) ?_
  rintro _ _ ⟨_, rfl, A76, c76, rfl, rfl⟩
  refine Ol.p ass ?_
  refine Ol.nil ?_
  show Cd _ _ _ _ (row (.slice A76 rl.length c76) 3 1 rl.length (ints rl) :: R72 :: R70 :: LB)
  refine Cd.seq ?_
  refine Cd.region ?_
  refine Ol.p mvb ?_
  refine Ol.p mvb ?_
  refine Ol.gp rfl mvs ?_
  refine Ol.gp rfl (ldw (cs := f.cells.toArray) ag_api_Func (i := 4) h4 rfl) ?_
  refine Ol.gx rfl (sp_call (vs := [f.val]) (R := NewL 3 1 ol.length (ints ol)) en_ref10_Order (fun M w' hh => r5 w' (hf.now hh))) ?_
  rintro _ _ ⟨_, rfl, A81, c81, rfl, rfl⟩
  refine Ol.gs rfl (cl (v := .bool true) (vs := [.slice A70 ol.length c70, .slice A81 ol.length c81]) en_kit_SameInts (fun M w' hh => kit_SameInts_self ((hp1 w w.heap.size).keep (.sub (.cons _ (.cons _ (.cons _ (.cons_cons _ (List.nil_sublist _)))))) M w' hh) (Reads.row hh (i := 0) rfl) (by omega))) ?_
  refine Ol.p (pkTb rfl) ?_
  refine Ol.p mvb ?_
  refine Ol.gp rfl mvs ?_
  refine Ol.gp rfl (ldw (cs := f.cells.toArray) ag_api_Func (i := 5) h4 rfl) ?_
  refine Ol.gp rfl mvs ?_
  refine Ol.gp rfl mvs ?_
  refine Ol.gx rfl (sp_call (vs := [f.val, .slice A1 fr.length c1, .slice A2 nt.length c2]) (R := NewL 3 1 rl.length (ints rl)) en_ref10_Reached (fun M w' hh => r6 w' (hf.now hh) (hfr.now hh) (hnt.now hh))) ?_
  rintro _ _ ⟨_, rfl, A89, c89, rfl, rfl⟩
  refine Ol.gs rfl (cl (v := .bool true) (vs := [.slice A76 rl.length c76, .slice A89 rl.length c89]) en_kit_SameInts (fun M w' hh => kit_SameInts_self (Reads.row hh (i := 2) rfl) (Reads.row hh (i := 0) rfl) (by omega))) ?_
  refine Ol.p (pkTb rfl) ?_
  refine Ol.p asb ?_
  refine Ol.nil ?_
  refine Cd.keep (L' := row (.slice A76 rl.length c76) 3 1 rl.length (ints rl) :: R72 :: R70 :: LB) (.sub (.cons _ (.cons _ (List.Sublist.refl _)))) ?_
  have hin3 : ∀ r ∈ LB, r ∈ row (.slice A76 rl.length c76) 3 1 rl.length (ints rl) :: R72 :: R70 :: LB := fun r h => List.mem_cons_of_mem _ (hin2 r h)
  refine Cd.seq ?_
  refine Cd.region ?_
  refine Ol.p mvb ?_
  refine Ol.p mvb ?_
  refine Ol.gp rfl (ldw (cs := g.cells.toArray) ag_api_Func (i := 3) h9 rfl) ?_
  refine Ol.gp rfl (ldw (cs := f.cells.toArray) ag_api_Func (i := 4) h4 rfl) ?_
  refine Ol.gs rfl (cl (v := .bool true) (vs := [g.val, f.val]) en_kit_KeptFunc (fun M w' hh => kit_KeptFunc_ct hb (hQ hin3 hh).1 (hf.now hh) hfc hfit.c (by omega) (hbi.now hh) h40)) ?_
  refine Ol.p (pkTb rfl) ?_
  refine Ol.p mvb ?_
  refine Ol.gp rfl mvs ?_
  refine Ol.gp rfl mvs ?_
  refine Ol.gs rfl (cl (v := .bool true) (vs := [.slice A29 fr.length c29, .slice A1 fr.length c1]) en_kit_KeptInts (fun M w' hh => kit_KeptInts_ct (hQ hin3 hh).2.1.1 (hQ hin3 hh).2.1.2 (hfr.now hh) (by omega))) ?_
  refine Ol.p (pkTb rfl) ?_
  refine Ol.p mvb ?_
  refine Ol.gp rfl mvs ?_
  refine Ol.gp rfl mvs ?_
  refine Ol.gs rfl (cl (v := .bool true) (vs := [.slice A31 nt.length c31, .slice A2 nt.length c2]) en_kit_KeptInts (fun M w' hh => kit_KeptInts_ct (hQ hin3 hh).2.2.1 (hQ hin3 hh).2.2.2 (hnt.now hh) (by omega))) ?_
  refine Ol.p (pkTb rfl) ?_
  refine Ol.p mvb ?_
  refine Ol.gp rfl mvs ?_
  refine Ol.gp rfl mvs ?_
  refine Ol.gp rfl mvs ?_
  refine Ol.gp rfl mvs ?_
  refine Ol.gx rfl (bsv [.slice A70 ol.length c70, .slice A72 ol.length c72, .slice A76 rl.length c76, .slice A29 fr.length c29] sl_L_L_int zr_L_int (by simp [Value.cells])) ?_
  rintro _ _ ⟨g113, rfl, rfl⟩
  refine Ol.gx rfl (sp_callm (vs := [.slice (some ⟨g113, 0, none⟩) 4 4]) (Lin := [row (.slice (some ⟨g113, 0, none⟩) 4 4) 22 1 4 [.slice A70 ol.length c70, .slice A72 ol.length c72, .slice A76 rl.length c76, .slice A29 fr.length c29], R70, R72, rowL ⟨A76, rl.length, rl.length, c76⟩ (ints rl), rowL ⟨A29, fr.length, fr.length + 12, c29⟩ (ints (fr ++ mkL 12))]) (L2 := blk g9 (.cells g.cells.toArray 25) :: blk g4 (.cells f.cells.toArray 25) :: lInt A31 c31 nt :: funLent g) en_kit_ApartInts (perm_count fun _ x => by rw [hLB, hLQ]; simp only [rowL, lInt, List.count_append, List.count_cons, List.count_nil, List.cons_append, List.nil_append]; omega) (kit_Apart4 (x := ⟨A70, ol.length, ol.length, c70⟩) (y := ⟨A72, ol.length, ol.length, c72⟩) (z := ⟨A76, rl.length, rl.length, c76⟩) (u := ⟨A29, fr.length, fr.length + 12, c29⟩) (Z := ints rl) (U := ints (fr ++ mkL 12)) (fun k => ho1 k _) (fun k => ho2 k _) ⟨by simp [ints], Nat.le_refl _⟩ ⟨by simp [ints, mkL_len], by show fr.length ≤ fr.length + 12; omega⟩ ⟨by show ol.length < 2 ^ 39; omega, by show ol.length < 2 ^ 39; omega, by show rl.length < 2 ^ 39; omega, by show fr.length < 2 ^ 39; omega⟩)) ?_
  rintro _ _ ⟨_, rfl, rfl, rfl⟩
  refine Ol.p (pkTb rfl) ?_
  refine Ol.p mvb ?_
  refine Ol.gs rfl (cl (v := .bool true) en_law10_awake (fun M w' hh => law10_awake_ct)) ?_
  refine Ol.p (pkTb rfl) ?_
  refine Ol.p asb ?_
  refine Ol.nil ?_
  exact Cd.ret ⟨.bool true, ret1 rfl rfl, [], Keep.nil, rfl, rfl⟩
end
end Go.Proofs.YtkefmjhagmacfaaGreatDoor

/- A region whose order is drawn, in which an operation may take what another one made, or what was there (tokens), and turn it: one walk serves every order. -/
namespace Go.Proofs.YtkefmjhagmacfaaGreatDoor
set_option linter.unusedVariables false
open Go Go.RowKit

def liveU (tk : Nat → List Nat) (E : List Nat) : List Nat := E.filter fun c => !(E.any fun k => decide (c ∈ tk k))
def WkU (C : Ctx) (all : Array Oper) (ex : Nat → Option (Value → List Res → Prop)) (nd : Nat → List Nat) (tk : Nat → List Nat) (u : Got) (L0 : List Res) : Nat → List Oper → Env → List Nat → (Env → List Nat → Prop) → Prop
  | _, [], σ, E, K => K σ E
  | k, o :: rest, σ, E, K =>
    bif wants all σ o then
      (∀ c ∈ nd k, c ∈ liveU tk E) ∧ okDst C.N o.dst = true ∧
      match ex k with
      | some V => Sp C.P C.w0 C.B o σ (needs u (nd k) L0) (Adds V (needs u ((nd k).filter fun c => !decide (c ∈ tk k)) L0)) ∧ WkU C all ex nd tk u L0 (k + 1) rest (updO σ o.dst (u k).1) (k :: E) K
      | none => ∃ v, Sd C.P C.w0 C.B o σ (needs u (nd k) L0) v ∧ WkU C all ex nd tk u L0 (k + 1) rest (updO σ o.dst v) E K
    else okDst C.N o.dst = true ∧ WkU C all ex nd tk u L0 (k + 1) rest (updO σ o.dst undef) E K
def StepU (C : Ctx) (all : Array Oper) (ex : Nat → Option (Value → List Res → Prop)) (nd : Nat → List Nat) (tk : Nat → List Nat) (u : Got) (L0 : List Res) (k : Nat) (o : Oper) (σ : Env) (E : List Nat) (v : Value) : Prop :=
  okDst C.N o.dst = true ∧
  ((wants all σ o = true ∧ (∀ c ∈ nd k, c ∈ liveU tk E) ∧ ((∃ V, ex k = some V ∧ v = (u k).1 ∧ Sp C.P C.w0 C.B o σ (needs u (nd k) L0) (Adds V (needs u ((nd k).filter fun c => !decide (c ∈ tk k)) L0))) ∨ (ex k = none ∧ Sd C.P C.w0 C.B o σ (needs u (nd k) L0) v))) ∨
   (wants all σ o = false ∧ v = undef))
/-! ### What must be so: a closed test -/
def drawOkU (ops : Array Oper) (m : Nat) (nd : Nat → List Nat) (tk : Nat → List Nat) (E0 : List Nat) : Bool :=
  let b := bef ops
  drawOk ops m (fun k => (nd k).filter fun c => Nat.blt c 1000) && Nat.ble ops.size 1000 && (E0.eraseDups.length == E0.length) && E0.all (fun c => Nat.ble 1000 c && (tk c).isEmpty) &&
  (List.range m).all fun k => ((nd k).eraseDups.length == (nd k).length) && (nd k).all (fun c => Nat.blt c 1000 || E0.contains c) &&
    (tk k).all fun c => (nd k).contains c && !(Nat.beq c k) && (List.range m).all fun j => Nat.beq j k || !(nd j).contains c || (Nat.blt j k && (b.getD k 0).testBit j)
structure OkU (ops : Array Oper) (m : Nat) (nd : Nat → List Nat) (tk : Nat → List Nat) (E0 : List Nat) : Prop where
  ok : Ok ops m (fun k => (nd k).filter fun c => Nat.blt c 1000)
  big : ops.size ≤ 1000
  e0 : E0.Nodup
  tok : ∀ c ∈ E0, 1000 ≤ c ∧ tk c = []
  nodu : ∀ k, k < m → (nd k).Nodup
  has : ∀ k, k < m → ∀ c ∈ nd k, c < 1000 ∨ c ∈ E0
  tak : ∀ k, k < m → ∀ c, c ∈ tk k → c ∈ nd k ∧ c ≠ k ∧ ∀ j, j < m → j ≠ k → c ∈ nd j → j < k ∧ Anc ops k j
/-! ### Every order -/
section
variable {C : Ctx} {l : List Oper} {m : Nat} {nd : Nat → List Nat} {tk : Nat → List Nat} {E0 : List Nat} {ex : Nat → Option (Value → List Res → Prop)} {σ : Env} {L0 : List Res} {K : Env → List Nat → Prop}
structure GoodU (C : Ctx) (l : List Oper) (m : Nat) (ex : Nat → Option (Value → List Res → Prop)) (nd : Nat → List Nat) (tk : Nat → List Nat) (E0 : List Nat) (L0 : List Res) (σ : Env) (K : Got → Env → List Nat → Prop) (u : Got) (vs : List Value) : Prop where
  len : vs.length = (l.take m).length
  step : ∀ (i : Nat) (o : Oper) (v : Value), (l.take m)[i]? = some o → vs[i]? = some v → StepU C l.toArray ex nd tk u L0 i o (envAt ((l.take m).take i) (vs.take i) σ) (exAt l.toArray ex 0 ((l.take m).take i) (vs.take i) σ E0) v
  fin : K u (envAt (l.take m) vs σ) (exAt l.toArray ex 0 (l.take m) vs σ E0)
structure MidU (C : Ctx) (l : List Oper) (m : Nat) (ex : Nat → Option (Value → List Res → Prop)) (nd : Nat → List Nat) (tk : Nat → List Nat) (E0 : List Nat) (L0 : List Res) (σ : Env) (K : Got → Env → List Nat → Prop) (listed : Array Bool) (u : Got) (Ex : List Nat) (a : Act) (w : World) : Prop where
  size : a.tmps.size = C.N
  valid : Valid ex u
  nodup : Ex.Nodup
  sub : ∀ c ∈ Ex, (c < m ∧ Ls listed c) ∨ c ∈ E0
  old : ∀ c ∈ E0, c ∈ Ex
  base : ∀ t, (∀ (j : Nat) (o : Oper), j < m → l[j]? = some o → Ls listed j → o.dst ≠ some t) → a.tmps.getD t undef = σ t
  vals : ∀ u', Valid ex u' → (∀ c ∈ Ex, u' c = u c) → ∀ vs, GoodU C l m ex nd tk E0 L0 σ K u' vs → ∀ (j : Nat) (o : Oper) (v : Value), j < m → l[j]? = some o → vs[j]? = some v → Ls listed j →
    (∀ t, o.dst = some t → a.tmps.getD t undef = v) ∧ (j ∈ Ex ↔ j ∈ exAt l.toArray ex 0 (l.take m) vs σ E0)
  heap : Hp C.w0 C.B (hid C a ++ needs u (liveU tk Ex) L0) w
end
/-! ### The walk's steps -/
section
variable {C : Ctx} {all : Array Oper} {ex : Nat → Option (Value → List Res → Prop)} {nd : Nat → List Nat} {tk : Nat → List Nat} {u : Got} {L0 : List Res} {k : Nat} {rest : List Oper} {σ : Env} {E : List Nat} {K : Env → List Nat → Prop} {op : Op} {d : Option Nat} {ty : TypeId} {pos : String} {af : Array Edge} {gd : Option (Nat × Bool)} {v : Value}
end
end Go.Proofs.YtkefmjhagmacfaaGreatDoor

/- The document's answer of layer 03: whether a variable may lack a value, walked. -/
namespace Go.Proofs.YtkefmjhagmacfaaGreatDoor
set_option linter.unusedVariables false
set_option linter.unusedSimpArgs false
open Go Go.RowKit
set_option maxRecDepth 100000

end Go.Proofs.YtkefmjhagmacfaaGreatDoor

/- The package ir: a function's variables, its size, walked. -/
namespace Go.Proofs.YtkefmjhagmacfaaGreatDoor
set_option linter.unusedVariables false
open Go Go.RowKit
set_option maxRecDepth 100000

/-- What is noted of an instruction, of a block, of a function. -/
def noteI (i : RIns) : List Int := readsL i ++ [defI i]
def noteB (b : RBlk) : List Int := b.ins.flatMap noteI ++ needsL b.term
def noteF (f : RFun) : List Int := f.params ++ f.blocks.flatMap noteB
def noS : VS := fun _ => false
def varsTo (S : VS) (k : Nat) : List Nat := (List.range' 1 k).filter S
def okF (f : RFun) : Bool := !longF f && wholeF f
def varsF (f : RFun) : List Nat := if okF f then varsTo (putsV noS (noteF f) true) 200 else []
def sizeF (f : RFun) : Nat := if okF f then (f.blocks.map fun b => b.ins.length + 1).sum else 0
end Go.Proofs.YtkefmjhagmacfaaGreatDoor

/- Picking. -/
namespace Go.Proofs.YtkefmjhagmacfaaGreatDoor
set_option linter.unusedVariables false
open Go Go.RowKit
set_option maxRecDepth 100000
end Go.Proofs.YtkefmjhagmacfaaGreatDoor

/- The law 03: its example; IrSafe, walked. -/
namespace Go.Proofs.YtkefmjhagmacfaaGreatDoor
set_option linter.unusedVariables false
open Go Go.RowKit
set_option maxRecDepth 100000

end Go.Proofs.YtkefmjhagmacfaaGreatDoor

/- Plain law: a function whose variables are renamed, one to one. -/
namespace Go.Proofs.YtkefmjhagmacfaaGreatDoor
set_option linter.unusedVariables false
open Go Go.RowKit

/-- A renaming: none stays, variables go to variables, one to one, all of them. -/
structure Rnm (r : Int → Int) (rN : Nat → Nat) : Prop where
  var : ∀ n, varB (r n) = varB n
  stay : ∀ n, varB n = false → r n = n
  inj : ∀ a b, r a = r b → a = b
  onto : ∀ n, ∃ m, r m = n
  nat : ∀ n : Nat, r (n : Int) = ((rN n : Nat) : Int)
section
variable {r : Int → Int} {rN : Nat → Nat}
def renT (r : Int → Int) (t : Tm) : Tm := { t with a := r t.a }
def renI (r : Int → Int) (i : RIns) : RIns := { i with dst := r i.dst, a := r i.a, b := r i.b, args := i.args.map r }
def renB (r : Int → Int) (b : RBlk) : RBlk := { b with ins := b.ins.map (renI r), term := renT r b.term }
def renF (r : Int → Int) (f : RFun) : RFun := { f with params := f.params.map r, blocks := f.blocks.map (renB r) }
end
/-- The renaming of the law. -/
def shiftI (k : Nat) (v : Int) : Int := if v < 1 ∨ 200 < v then v else (v - 1 + k) % 200 + 1
def shiftN (k v : Nat) : Nat := if v < 1 ∨ 200 < v then v else (v - 1 + k) % 200 + 1
end Go.Proofs.YtkefmjhagmacfaaGreatDoor

/- The package ir: the most operands, arguments; a variable renamed, walked. -/
namespace Go.Proofs.YtkefmjhagmacfaaGreatDoor
set_option linter.unusedVariables false
open Go Go.RowKit
set_option maxRecDepth 100000

def insMost (p : Nat × Nat) (i : RIns) : Nat × Nat := if i.op = 13 then (p.1, max p.2 i.args.length) else (max p.1 (readsL i).length, p.2)
def blkMost (p : Nat × Nat) (b : RBlk) : Nat × Nat := b.ins.foldl insMost (max p.1 (needsL b.term).length, p.2)
def mostF (f : RFun) : Nat × Nat := if okF f then f.blocks.foldl blkMost (0, f.params.length) else (0, 0)
end Go.Proofs.YtkefmjhagmacfaaGreatDoor

/- The document's answer of layer 03: whether a function is right; its variables; its size, walked. -/
namespace Go.Proofs.YtkefmjhagmacfaaGreatDoor
set_option linter.unusedVariables false
set_option linter.unusedSimpArgs false
open Go Go.RowKit
set_option maxRecDepth 100000

end Go.Proofs.YtkefmjhagmacfaaGreatDoor

/- The document's answer of layer 03: a function's variables, its most, its size, walked. -/
namespace Go.Proofs.YtkefmjhagmacfaaGreatDoor
set_option linter.unusedVariables false
set_option linter.unusedSimpArgs false
open Go Go.RowKit
set_option maxRecDepth 100000

end Go.Proofs.YtkefmjhagmacfaaGreatDoor

/- The law 03: IrTells, walked. -/
namespace Go.Proofs.YtkefmjhagmacfaaGreatDoor
set_option linter.unusedVariables false
open Go Go.RowKit
set_option maxRecDepth 100000

end Go.Proofs.YtkefmjhagmacfaaGreatDoor

/- Functions written out by hand: where they lie, that they are fit. -/
namespace Go.Proofs.YtkefmjhagmacfaaGreatDoor
set_option linter.unusedVariables false
open Go Go.RowKit
set_option maxRecDepth 100000
def I1 (v : Int) : RIns := ⟨1, v, 0, 0, 0, 0, none, 0, [], 0⟩
def IRn (n : Int) : Prop := -9223372036854775808 ≤ n ∧ n ≤ 9223372036854775807
/-- A block of constants. -/
def OKB (b : RBlk) : Prop := (∀ n ∈ [b.term.kind, b.term.a, b.term.t0, b.term.t1], IRn n) ∧ b.ins.length < 2 ^ 50 ∧ b.ins.length ≤ b.iC ∧ ∀ i ∈ b.ins, ∃ v, i = I1 v ∧ IRn v
def TB0 (n : Nat) : Tm := ⟨2, 1 + (n : Int).tmod 3, 1, 1 + (IntKind.i64.wrap ((n : Int).tdiv 9)).tmod 3⟩
def TB1 (n : Nat) : Tm := ⟨1 + (n : Int).tmod 4, (n : Int).tmod 3, (n : Int).tmod 5 - 1, (IntKind.i64.wrap ((n : Int).tdiv 5)).tmod 4⟩
def TB2 (n : Nat) : Tm := ⟨3, (n : Int).tmod 4, 0, 0⟩
def TB3 : Tm := ⟨1, 0, 2, 0⟩
def IB0 (n : Nat) : RIns := I1 (1 + (IntKind.i64.wrap ((n : Int).tdiv 2)).tmod 2)
def IB1 (n : Nat) : RIns := I1 (1 + (n : Int).tmod 2)
def IB3 (n : Nat) : RIns := I1 ((n : Int).tmod 4)
def BK (g : Nat) (i : RIns) (t : Tm) : RBlk := ⟨some ⟨g, 0, none⟩, 1, [i], t⟩
def BN (t : Tm) : RBlk := ⟨none, 0, [], t⟩
def L03 (n g0 g1 g3 : Nat) : List RBlk := [BK g0 (IB0 n) (TB0 n), BK g1 (IB1 n) (TB1 n), BN (TB2 n), BK g3 (IB3 n) TB3]
def FL03 (gp gb : Nat) (ps : List Int) (bs : List RBlk) : RFun := ⟨some ⟨gp, 0, none⟩, ps.length, ps, some ⟨gb, 0, none⟩, 4, bs⟩
def VF (n g1 : Nat) : Value → List Res → Prop := fun v R => ∃ g g0 g3 : Nat, v = .slice (some ⟨g, 0, none⟩) 4 4 ∧ R = [row (.slice (some ⟨g, 0, none⟩) 4 4) 49 5 4 ((L03 n g0 g1 g3).flatMap RBlk.cells), row (.slice (some ⟨g0, 0, none⟩) 1 1) 110 8 1 (IB0 n).cells, row (.slice (some ⟨g3, 0, none⟩) 1 1) 110 8 1 (IB3 n).cells]
end Go.Proofs.YtkefmjhagmacfaaGreatDoor

/- A store of a struct into a row of one's own; lists of blocks that are written so. Over any program. -/
namespace Go.Proofs.YtkefmjhagmacfaaGreatDoor
set_option linter.unusedVariables false
open Go Go.RowKit
theorem take_mid {α : Type} {cs vs : List α} {k m N : Nat} (hv : vs.length = m) (hk : k + m ≤ N) (hN : N ≤ cs.length) : (cs.take k ++ vs ++ cs.drop (k + m)).take N = (cs.take N).take k ++ vs ++ (cs.take N).drop (k + m) := by
  have hl : (cs.take k ++ vs).length = k + m := by
    rw [List.length_append, List.length_take, hv]
    omega
  rw [List.take_append, List.take_of_length_le (by omega : (cs.take k ++ vs).length ≤ N), hl, List.take_take, Nat.min_eq_left (by omega : k ≤ N), List.drop_take]
section
variable {P : Program} {w0 : World} {B : Nat} {σ : Env} {L : List Res} {d : Option Nat} {ty T : TypeId} {pos : String} {af : Array Edge} {gd : Option (Nat × Bool)} {x y : Operand}
theorem stra {i e s n c k m : Nat} {A : Option Addr} {xs : List Value} {vs : Array Value} (hT : (P.info? T).map (·.size) = some m) (hn : vs.size = m) (hm : 0 < m) (h1 : ∀ u ∈ vs.toList, u.oneCell' = true) (hi : L[i]? = some (row (.slice A n c) e s n xs)) (hk : k + m ≤ xs.length) (hy : ev σ y = .agg vs := by exact rfl) (hx : ev σ x = .pointer (some (ap A k)) := by exact rfl) :
    Sp P w0 B ⟨d, .store T x y, ty, pos, af, gd⟩ σ L (det undef (L.set i (row (.slice A n c) e s n (xs.take k ++ vs.toList ++ xs.drop (k + m))))) := fun M w hh => by
  have hown : w.ownsRow 0 e s (.slice A n c) n xs := hh.at_ hi
  have hlen := hown.1
  rcases hown.2 with ⟨_, h0⟩ | ⟨g, cap, cur, hv, _, hg, hnc, hcm, hcs, htake⟩
  · rw [h0, Nat.zero_mul] at hlen
    omega
  · injection hv with hA _ hcc
    subst hA
    subst hcc
    have hns : n * s ≤ cur.size := by rw [hcs]; exact Nat.mul_le_mul_right s hnc
    have hvl : vs.toList.length = m := by simpa using hn
    obtain ⟨w', hr, hst, hb⟩ := run_storeCells_all (P := P) (g := g) (e := e) vs.toList k 0 cur w hg (by rw [hvl]; omega) h1
    simp only [Nat.add_zero, hvl] at hb
    have hrow : w'.ownsRow 0 e s (.slice (some ⟨g, 0, none⟩) n c) n (xs.take k ++ vs.toList ++ xs.drop (k + m)) := by
      refine ⟨?_, .inr ⟨g, c, _, rfl, Nat.zero_le _, hb, hnc, hcm, ?_, ?_⟩⟩
      · simp only [List.length_append, List.length_take, List.length_drop, hvl]
        omega
      · simp only [List.size_toArray, List.length_append, List.length_take, List.length_drop, hvl, Array.length_toList]
        omega
      · rw [← htake]
        exact take_mid hvl (by omega) (by simpa using hns)
    refine .inr (.inl ⟨w', ?_, _, hh.set (r' := row (.slice (some ⟨g, 0, none⟩) n c) e s n (xs.take k ++ vs.toList ++ xs.drop (k + m))) hi (hst.mono fun b _ hb => ?_) hrow (fun _ hk => .inl hk), rfl, rfl⟩)
    · rw [ap_own] at hx
      simp only [execOp, hx, hy, Instr.storeAt, Instr.sureAddr, storeVar, Value.cells, Sem.run_bind, Sem.run_pure, Result.andThen_ok, run_size hT, hn, ne_eq, not_true_eq_false, if_false, Sem.run_ite]
      rw [hr]
      rfl
    · have : b = g := hb
      subst this
      simp [row, Value.ownBlock]
end
theorem flat_store {α : Type} {F : α → List Value} {s : Nat} (hs : ∀ x, (F x).length = s) {l : List α} {q a m : Nat} {x x' : α} {vs : List Value} (hx : l[q]? = some x) (hv : vs.length = m) (ha : a + m ≤ s) (hF : F x' = (F x).take a ++ vs ++ (F x).drop (a + m)) :
    (l.flatMap F).take (q * s + a) ++ vs ++ (l.flatMap F).drop (q * s + a + m) = (l.set q x').flatMap F := by
  have hsx := hs x
  have hlq := (List.getElem?_eq_some_iff.1 hx).1
  have hp : ((l.take q).flatMap F).length = q * s := by
    have : ∀ l : List α, (l.flatMap F).length = l.length * s := fun l => by
      induction l with
      | nil => simp
      | cons y l ih => rw [List.flatMap_cons, List.length_append, hs, ih, List.length_cons, Nat.add_mul, Nat.one_mul, Nat.add_comm]
    rw [this, List.length_take, Nat.min_eq_left (by omega)]
  rw [set_split hx, List.flatMap_append, List.flatMap_cons, hF]
  conv => lhs; rw [split_at hx]
  simp only [List.flatMap_append, List.flatMap_cons]
  rw [List.take_append, List.drop_append, List.take_append, List.drop_append, List.take_of_length_le (by omega), List.drop_eq_nil_of_le (by omega : ((l.take q).flatMap F).length ≤ q * s + a + m), hp, show q * s + a - q * s = a by omega, show q * s + a + m - q * s = a + m by omega, hsx, show a - s = 0 by omega, show a + m - s = 0 by omega]
  simp [List.append_assoc]
theorem made_flat {α : Type} {F : α → List Value} {s : Nat} {z : α} {zs : Array Value} (hz : zs.toList = F z) (hs : (F z).length = s) (h0 : 0 < s) (n : Nat) : (madeCells zs (n * s)).toList.take (n * s) = (List.replicate n z).flatMap F := by
  have hsz : zs.size = s := by rw [← hs, ← hz]; simp
  have hl : (madeCells zs (n * s)).size = n * s := by simp [madeCells]
  rw [List.take_of_length_le (by simp [hl])]
  apply List.ext_getElem?
  intro i
  have hfl : ∀ n, ((List.replicate n z).flatMap F).length = n * s := fun n => by
    induction n with
    | zero => simp
    | succ n ih => rw [List.replicate_succ, List.flatMap_cons, List.length_append, ih, hs, Nat.add_mul, Nat.one_mul, Nat.add_comm]
  by_cases h : i < n * s
  · have hm : i % s < s := Nat.mod_lt _ h0
    have hfg : ∀ n i, i < n * s → ((List.replicate n z).flatMap F)[i]? = (F z)[i % s]? := fun n => by
      induction n with
      | zero => intro i hi; omega
      | succ n ih =>
        intro i hi
        rw [List.replicate_succ, List.flatMap_cons]
        rcases Nat.lt_or_ge i s with h1 | h1
        · rw [List.getElem?_append_left (by omega), Nat.mod_eq_of_lt h1]
        · rw [List.getElem?_append_right (by omega), hs, ih (i - s) (by rw [Nat.add_mul] at hi; omega), Nat.mod_eq_sub_mod h1]
    rw [hfg n i h, ← hz, Array.getElem?_toList, Array.getElem?_toList]
    have hlt : i % zs.size < zs.size := by rw [hsz]; exact hm
    simp only [madeCells, Array.getElem?_map, Array.getElem?_range, h, if_true, Option.map_some]
    rw [← hsz, getElem!_pos zs _ hlt, Array.getElem?_eq_getElem hlt]
  · rw [List.getElem?_eq_none (by rw [Array.length_toList, hl]; omega), List.getElem?_eq_none (by rw [hfl]; omega)]
end Go.Proofs.YtkefmjhagmacfaaGreatDoor

/- The law 10: FlowGraphs, walked. -/
namespace Go.Proofs.YtkefmjhagmacfaaGreatDoor
set_option linter.unusedVariables false
set_option linter.unusedSimpArgs false
open Go Go.RowKit
set_option maxRecDepth 100000
section
theorem tmodg (n k : Nat) : ((n : Int)).tmod (k : Int) = ((n % k : Nat) : Int) := rfl
theorem quog {n k : Nat} (h : n < 2 ^ 60) : IntKind.i64.wrap (((n : Int)).tdiv (k : Int)) = ((n / k : Nat) : Int) := by
  have e : ((n : Int)).tdiv (k : Int) = ((n / k : Nat) : Int) := rfl
  have h2 : n / k ≤ n := Nat.div_le_self n k
  rw [e]
  obtain ⟨q, hq⟩ : ∃ q, q = n / k := ⟨_, rfl⟩
  rw [← hq] at h2 ⊢
  exact IntWalk.i64_in _ ⟨by omega, by omega⟩
def okG (t : Tm) : Prop := ∀ n ∈ [t.kind, t.a, t.t0, t.t1], -9223372036854775808 ≤ n ∧ n ≤ 9223372036854775807
theorem okG_mk {a b c d : Int} (h : (-9223372036854775808 ≤ a ∧ a ≤ 9223372036854775807) ∧ (-9223372036854775808 ≤ b ∧ b ≤ 9223372036854775807) ∧ (-9223372036854775808 ≤ c ∧ c ≤ 9223372036854775807) ∧ (-9223372036854775808 ≤ d ∧ d ≤ 9223372036854775807)) : okG ⟨a, b, c, d⟩ := by
  intro x hx
  simp only [List.mem_cons, List.not_mem_nil, or_false] at hx
  rcases hx with rfl | rfl | rfl | rfl
  · exact h.1
  · exact h.2.1
  · exact h.2.2.1
  · exact h.2.2.2
theorem gall_set {α : Type} {p : α → Prop} {l : List α} {q : Nat} {x : α} (h : ∀ y ∈ l, p y) (hx : p x) : ∀ y ∈ l.set q x, p y := fun y hy => by
  rcases List.mem_or_eq_of_mem_set hy with h1 | rfl
  · exact h y h1
  · exact hx
theorem gall_add {α : Type} {p : α → Prop} {l : List α} {x : α} (h : ∀ y ∈ l, p y) (hx : p x) : ∀ y ∈ l ++ [x], p y := fun y hy => by
  rcases List.mem_append.1 hy with h1 | h1
  · exact h y h1
  · simp at h1
    subst h1
    exact hx
theorem gt_len (tl : List Tm) : ((tl.map BN).flatMap RBlk.cells).length = tl.length * 5 := by
  rw [flat_len RBlk.len, List.length_map]
theorem gt_store {tl : List Tm} {q : Nat} {t : Tm} (hq : q < tl.length) : ((tl.map BN).flatMap RBlk.cells).take (q * 5) ++ (BN t).cells ++ ((tl.map BN).flatMap RBlk.cells).drop (q * 5 + 5) = ((tl.set q t).map BN).flatMap RBlk.cells := by
  have hx : (tl.map BN)[q]? = some (BN tl[q]) := by rw [List.getElem?_map, List.getElem?_eq_getElem hq]; rfl
  have := flat_store RBlk.len (a := 0) (x' := BN t) hx (show (BN t).cells.length = 5 from rfl) (by decide) (by
    show (BN t).cells = ((BN tl[q]).cells).take 0 ++ (BN t).cells ++ ((BN tl[q]).cells).drop 5
    rw [List.take_zero, List.nil_append, List.drop_eq_nil_of_le (by rw [RBlk.len]; exact Nat.le_refl _), List.append_nil])
  rw [List.map_set]
  exact this
theorem gt_add (tl : List Tm) (t : Tm) : ((tl.map BN).flatMap RBlk.cells) ++ (BN t).cells = ((tl ++ [t]).map BN).flatMap RBlk.cells := by
  rw [List.map_append, List.flatMap_append]
  simp
/-- A function of bare blocks. -/
def GF (A : Option Addr) (c : Nat) (tl : List Tm) : RFun := ⟨none, 0, [], A, c, tl.map BN⟩
theorem GF_fit {A : Option Addr} {c : Nat} {tl : List Tm} (hok : ∀ t ∈ tl, okG t) (hc : tl.length ≤ c) (hl : tl.length < 2 ^ 40) : Fit (GF A c tl) := by
  have key : ∀ b ∈ (GF A c tl).blocks, ∃ t ∈ tl, BN t = b := fun b hb => List.mem_map.1 hb
  constructor
  · intro n hn; cases hn
  · exact Nat.two_pow_pos _
  · show (tl.map BN).length < 2 ^ 50
    rw [List.length_map]; omega
  · exact Nat.le_refl _
  · show (tl.map BN).length ≤ c
    rw [List.length_map]; exact hc
  · intro b hb; obtain ⟨t, ht, rfl⟩ := key b hb; exact Nat.two_pow_pos _
  · intro b hb; obtain ⟨t, ht, rfl⟩ := key b hb; exact Nat.le_refl _
  · intro b hb; obtain ⟨t, ht, rfl⟩ := key b hb; exact hok t ht
  · intro b hb i hi; obtain ⟨t, ht, rfl⟩ := key b hb; cases hi
  · intro b hb i hi; obtain ⟨t, ht, rfl⟩ := key b hb; cases hi
  · intro b hb i hi; obtain ⟨t, ht, rfl⟩ := key b hb; cases hi
  · intro b hb i hi; obtain ⟨t, ht, rfl⟩ := key b hb; cases hi
theorem GF_at {w : World} {B : Nat} {A : Option Addr} {c : Nat} {tl : List Tm} (h : Reads w B 5 A tl.length ((tl.map BN).flatMap RBlk.cells)) : FunAt w B (GF A c tl) := by
  have key : ∀ b ∈ (GF A c tl).blocks, ∃ t ∈ tl, BN t = b := fun b hb => List.mem_map.1 hb
  refine ⟨Reads.none_, ?_, fun b hb => ?_, fun b hb i hi => ?_⟩
  · show Reads w B 5 A (tl.map BN).length _
    rw [List.length_map]; exact h
  · obtain ⟨t, ht, rfl⟩ := key b hb; exact Reads.none_
  · obtain ⟨t, ht, rfl⟩ := key b hb; cases hi
theorem gtells_ct {w : World} {bA A1 A2 : Option Addr} {nb bC n1 n2 c1 c2 : Nat} {tl : List Tm} {b : Int} {fr nt : List Int} (hT : Tabs w w.heap.size) (hb : tl.length = nb) (hok : ∀ t ∈ tl, okG t) (hcap : nb ≤ bC) (hl : nb < 2 ^ 40) (h2 : Reads w w.heap.size 5 bA nb ((tl.map BN).flatMap RBlk.cells))
    (e1 : fr.length = n1) (e2 : nt.length = n2) (hfr : Reads w w.heap.size 1 A1 n1 (ints fr)) (hnt : Reads w w.heap.size 1 A2 n2 (ints nt)) (hi1 : ∀ n ∈ fr, I64 n) (hi2 : ∀ n ∈ nt, I64 n) (hl1 : n1 < 2 ^ 60) (hl2 : n2 < 2 ^ 60) :
    Ct Tryz.prog 3 #[.agg #[.slice none 0 0, .slice bA nb bC], .int .i64 b, .slice A1 n1 c1, .slice A2 n2 c2] w (Is (.bool true)) := by
  subst hb e1 e2
  have h := law10_FlowTells_ct (f := GF bA bC tl) (b := b) (c1 := c1) (c2 := c2) hT (GF_at h2) (GF_fit hok hcap hl) hfr hnt hi1 hi2 hl1 hl2
  have e : (GF bA bC tl).val = .agg #[.slice none 0 0, .slice bA tl.length bC] := by
    show Value.agg #[.slice none 0 0, .slice bA (tl.map BN).length bC] = _
    rw [List.length_map]
  rw [e] at h
  exact h
theorem i64l1 {a : Int} (h : -9223372036854775808 ≤ a ∧ a ≤ 9223372036854775807) : ∀ n ∈ [a], I64 n := fun n hn => by
  simp at hn
  subst hn
  unfold I64
  omega
theorem i64l3 {a b c : Int} (h : (-9223372036854775808 ≤ a ∧ a ≤ 9223372036854775807) ∧ (-9223372036854775808 ≤ b ∧ b ≤ 9223372036854775807) ∧ (-9223372036854775808 ≤ c ∧ c ≤ 9223372036854775807)) : ∀ n ∈ [a, b, c], I64 n := fun n hn => by
  simp at hn
  unfold I64
  rcases hn with rfl | rfl | rfl <;> omega
theorem i64l0 : ∀ n ∈ ([] : List Int), I64 n := fun n hn => by cases hn
def BR (A : Option Addr) (n c : Nat) (tl : List Tm) : Res := row (.slice A n c) 49 5 n ((tl.map BN).flatMap RBlk.cells)
set_option maxHeartbeats 4000000 in
theorem law10_FlowGraphs_ct {w : World} (hT : Tabs w w.heap.size) : Ct Tryz.prog 4 #[] w (Is (.bool true)) := by
  refine Ct.mk Tryz.func4 rfl rfl ?_
  refine Cd.seq ?_
  refine Cd.region ?_
  refine Ol.p asb ?_
  refine Ol.nil ?_
  refine Cd.seq ?_
  refine Cd.seq ?_
  refine Cd.region ?_
  refine Ol.p asi ?_
  refine Ol.nil ?_
  refine Cd.block ?_   -- 0
  refine Cd.loop (fun m σ L => ∃ n : Nat, m = 1728 - n ∧ n ≤ 1728 ∧ Has σ [(1, .int .i64 n)] ∧ [] = L) (n := 1728) ⟨0, rfl, Nat.zero_le _, ⟨rfl, trivial⟩, rfl⟩ ?_
  rintro _ σ L ⟨n, rfl, hn, hs, rfl⟩
  refine Cd.has hs ?_
  clear hs
  refine Cd.seq ?_
  refine Cd.seq ?_
  refine Cd.region ?_
  refine Ol.p mvi ?_
  refine Ol.p lsi ?_
  refine Ol.nil ?_
  refine Cd.cond rfl (fun h => ?_) (fun h => ?_)   -- $11
  · have hnl : n < 1728 := by
      have h : decide ((n : Int) < 1728) = true := h
      have := of_decide_eq_true h
      omega
    have t3 : (n : Int).tmod 3 = ((n % 3 : Nat) : Int) := rfl
    have t4 : (n : Int).tmod 4 = ((n % 4 : Nat) : Int) := rfl
    have t7 : (n : Int).tmod 7 = ((n % 7 : Nat) : Int) := rfl
    refine Cd.skip ?_
    refine Cd.seq ?_
    refine Cd.block ?_   -- 1
    refine Cd.seq ?_
    refine Cd.region ?_
    refine Ol.p ass ?_
    refine Ol.nil ?_
    refine Cd.seq ?_
    refine Cd.region ?_
    refine Ol.p mvi ?_
    refine Ol.p asi ?_
    refine Ol.nil ?_
    refine Cd.seq ?_
    refine Cd.seq ?_
    refine Cd.region ?_
    refine Ol.p asi ?_
    refine Ol.nil ?_
    refine Cd.block ?_   -- 2
    refine Cd.nr 49 5 ?_
    refine Cd.loop (fun m σ L => ∃ (b x : Nat) (A : Option Addr) (c : Nat) (tl : List Tm), m = 3 - b ∧ b ≤ 3 ∧ x < 1728 ∧ Has σ [(1, .int .i64 n), (2, .slice A b c), (3, .int .i64 x), (4, .int .i64 b)] ∧ tl.length = b ∧ (∀ t ∈ tl, okG t) ∧ [BR A b c tl] = L) (n := 3) ⟨0, n, none, 0, [], rfl, Nat.zero_le _, hnl, ⟨rfl, rfl, rfl, rfl, trivial⟩, rfl, (fun t ht => by cases ht), rfl⟩ ?_
    rintro _ σ L ⟨b, x, A, c, tl, rfl, hb, hx, hs, htl, hok, rfl⟩
    refine Cd.has hs ?_
    clear hs
    refine Cd.seq ?_
    refine Cd.seq ?_
    refine Cd.region ?_
    refine Ol.p mvi ?_
    refine Ol.p lsi ?_
    refine Ol.nil ?_
    refine Cd.cond rfl (fun h => ?_) (fun h => ?_)   -- $16
    · have hbl : b < 3 := by
        have h : decide ((b : Int) < 3) = true := h
        have := of_decide_eq_true h
        omega
      refine Cd.skip ?_
      refine Cd.mid (fun σ' L' => ∃ (A2 : Option Addr) (c2 : Nat) (t : Tm), okG t ∧ Has σ' [(1, .int .i64 n), (2, .slice A2 (b + 1) c2), (3, .int .i64 ((x / 12 : Nat) : Int)), (4, .int .i64 b)] ∧ [BR A2 (b + 1) c2 (tl ++ [t])] = L') ?_ ?_
      · skip
        refine Cd.block ?_   -- 3
        refine Cd.seq ?_
        refine Cd.region ?_
        refine Ol.p mvi ?_
        refine Ol.p remi ?_
        refine Ol.p asi ?_
        refine Ol.nil ?_
        refine Cd.seq ?_
        refine Cd.region ?_
        refine Ol.p mvi ?_
        refine Ol.p quoi ?_
        refine Ol.p asi ?_
        refine Ol.nil ?_
        obtain ⟨y, hy⟩ : ∃ y : Nat, y = x % 12 := ⟨_, rfl⟩
        rw [show ((x : Int)).tmod 12 = ((x % 12 : Nat) : Int) from rfl, ← hy]
        have hy2 : y < 12 := by omega
        have e3 : (y : Int).tmod 3 = ((y % 3 : Nat) : Int) := rfl
        refine Cd.block ?_   -- 4
        refine Cd.seq ?_
        refine Cd.region ?_
        refine Ol.p mvi ?_
        refine Ol.p lsi ?_
        refine Ol.p asb ?_
        refine Ol.nil ?_
        refine Cd.cond rfl (fun h => ?_) (fun h => ?_)   -- $29
        · skip
          refine Cd.region ?_
          refine Ol.p mvs ?_
          refine Ol.p mvi ?_
          refine Ol.p remi ?_
          refine Ol.p mvi ?_
          refine Ol.p quoi ?_
          refine Ol.s (cl (v := (BN ⟨2, 1, (y : Int).tmod 3, IntKind.i64.wrap ((y : Int).tdiv 3)⟩).val) en_law10_branch (fun M w' hh => law10_branch_ct)) ?_
          refine Ol.x (bs1 (cs := (BN ⟨2, 1, (y : Int).tmod 3, IntKind.i64.wrap ((y : Int).tdiv 3)⟩).cells) sl_L_api_Block zr_api_Block rfl rfl) ?_
          rintro _ _ ⟨g38, rfl, rfl⟩
          refine Ol.x (apn (i := 1) (n := b) (m := 1) sl_L_api_Block zr_api_Block rfl (by decide) rfl (Src.row (i := 0) rfl rfl) (RBlk.one _) (by unfold maxLen; omega) (by omega)) ?_
          rintro _ _ ⟨A2, c2, rfl, rfl⟩
          refine Ol.p ass ?_
          refine Ol.keep (.sub (.cons _ (List.Sublist.refl _))) ?_
          refine Ol.nil ?_
          refine ⟨A2, c2, ⟨2, 1, (y : Int).tmod 3, IntKind.i64.wrap ((y : Int).tdiv 3)⟩, okG_mk ⟨by omega, by omega, by omega, by have := quog (n := y) (k := 3) (by omega); have e : ((3 : Nat) : Int) = 3 := rfl; rw [e] at this; rw [this]; omega⟩, ⟨rfl, rfl, congrArg (Value.int .i64) (quog (n := x) (k := 12) (by omega)), rfl, trivial⟩, ?_⟩
          unfold BR
          rw [← gt_add]
          rfl
        refine Cd.region ?_
        refine Ol.p mvs ?_
        refine Ol.p mvi ?_
        refine Ol.p (subi (hr := by omega)) ?_
        refine Ol.s (cl (v := (BN ⟨1, 0, (y : Int) - 9, 0⟩).val) en_law10_jump (fun M w' hh => law10_jump_ct)) ?_
        refine Ol.x (bs1 (cs := (BN ⟨1, 0, (y : Int) - 9, 0⟩).cells) sl_L_api_Block zr_api_Block rfl rfl) ?_
        rintro _ _ ⟨g27, rfl, rfl⟩
        refine Ol.x (apn (i := 1) (n := b) (m := 1) sl_L_api_Block zr_api_Block rfl (by decide) rfl (Src.row (i := 0) rfl rfl) (RBlk.one _) (by unfold maxLen; omega) (by omega)) ?_
        rintro _ _ ⟨A2, c2, rfl, rfl⟩
        refine Ol.p ass ?_
        refine Ol.keep (.sub (.cons _ (List.Sublist.refl _))) ?_
        refine Ol.nil ?_
        refine ⟨A2, c2, ⟨1, 0, (y : Int) - 9, 0⟩, okG_mk ⟨by omega, by omega, by omega, by omega⟩, ⟨rfl, rfl, congrArg (Value.int .i64) (quog (n := x) (k := 12) (by omega)), rfl, trivial⟩, ?_⟩
        unfold BR
        rw [← gt_add]
        rfl
      rintro σ' _ ⟨A2, c2, t, ht, hs', rfl⟩
      refine Cd.has hs' ?_
      refine Cd.region ?_
      refine Ol.p mvi ?_
      refine Ol.p addi ?_
      refine Ol.p asi ?_
      refine Ol.nil ?_
      exact ⟨3 - (b + 1), by omega, b + 1, x / 12, A2, c2, tl ++ [t], rfl, by omega, by omega, ⟨rfl, rfl, rfl, rfl, trivial⟩, by simp [htl], gall_add hok ht, rfl⟩
    have hb3 : b = 3 := by
      have h : decide ((b : Int) < 3) = false := h
      have := of_decide_eq_false h
      omega
    subst hb3
    refine Cd.exit (id := 2) ?_
    refine Cd.capl (i := 0) (A := A) (n := 3) (c := c) rfl fun hcap => ?_
    refine Cd.mid (fun σ' L' => ∃ tl' : List Tm, tl'.length = 3 ∧ (∀ t ∈ tl', okG t) ∧ Has σ' [(1, .int .i64 n), (2, .slice A 3 c)] ∧ [BR A 3 c tl'] = L') ?_ ?_
    · skip
      refine Cd.seq ?_
      refine Cd.region ?_
      refine Ol.p mvi ?_
      refine Ol.p remi ?_
      refine Ol.p eqi ?_
      refine Ol.nil ?_
      refine Cd.cond rfl (fun h => ?_) (fun h => ?_)   -- $42
      · skip
        refine Cd.region ?_
        refine Ol.p mvs ?_
        refine Ol.p mvi ?_
        refine Ol.p remi ?_
        refine Ol.s (cl (v := (BN ⟨4, 0, 0, 0⟩).val) en_law10_trap (fun M w' hh => law10_trap_ct)) ?_
        refine Ol.p (ixn (ix := n % 3) sl_L_api_Block (Som.row (i := 0) rfl (by omega)) (hy := congrArg (Value.int .i64) (tmodg n 3))) ?_
        refine Ol.s (stra (i := 0) (k := n % 3 * 5) (m := 5) (vs := (BN ⟨4, 0, 0, 0⟩).cells.toArray) sz_api_Block rfl (by decide) (RBlk.one _) rfl (by rw [gt_len]; omega)) ?_
        refine Ol.nil ?_
        refine ⟨tl.set (n % 3) ⟨4, 0, 0, 0⟩, by rw [List.length_set]; exact htl, gall_set hok (okG_mk ⟨by omega, by omega, by omega, by omega⟩), ⟨rfl, rfl, trivial⟩, ?_⟩
        unfold BR
        rw [← gt_store (by omega)]
        rfl
      refine Cd.skip ?_
      exact ⟨tl, htl, hok, ⟨rfl, rfl, trivial⟩, rfl⟩
    rintro σ' _ ⟨tl', htl', hok', hs', rfl⟩
    refine Cd.has hs' ?_
    clear hs'
    refine Cd.seq ?_
    refine Cd.region ?_
    refine Ol.p mvs ?_
    refine Ol.p (bds (cs := #[.slice none 0 0, .slice A 3 c]) bs_api_Func zr_api_Func (hf := by kernel_rfl)) ?_
    refine Ol.x (alc zr_api_Func) ?_
    rintro _ _ ⟨g6, rfl, rfl⟩
    refine Ol.s (stw (vs := #[.slice none 0 0, .slice A 3 c]) sz_api_Func rfl (by intro u hu; simp at hu; rcases hu with rfl | rfl <;> rfl) (i := 0) rfl rfl) ?_
    refine Ol.nil ?_
    refine Cd.mid (fun σ' L' => Has σ' [(1, .int .i64 n), (94, .bool false)] ∧ Keep L' []) ?_ ?_
    · cases h12 : decide ((n : Int).tmod 3 = 0) with
      | false =>
        cases h28 : decide ((n : Int).tmod 50 = 0) with
        | false =>
          refine Cd.region ?_
          refine Ol.p (ldw (cs := #[.slice none 0 0, .slice A 3 c]) ag_api_Func (i := 0) rfl rfl) ?_
          refine Ol.p mvi ?_
          refine Ol.p remi ?_
          refine Ol.p mvi ?_
          refine Ol.p remi ?_
          refine Ol.x (bsv (ints [(n : Int).tmod 3]) sl_L_int zr_int (by simp [ints, Value.cells])) ?_
          rintro _ _ ⟨g55, rfl, rfl⟩
          refine Ol.s (cl (v := .bool true) (vs := [.agg #[.slice none 0 0, .slice A 3 c], .int .i64 ((n : Int).tmod 4), .slice (some ⟨g55, 0, none⟩) 1 1, .slice none 0 0]) en_law10_FlowTells (fun M w' hh => gtells_ct (tl := tl') (fr := [(n : Int).tmod 3]) (nt := []) (hT.now hh) htl' hok' hcap (by decide) (Reads.row hh (i := 2) rfl) rfl rfl (Reads.row hh (i := 0) rfl) Reads.none_ (i64l1 (by omega)) i64l0 (by decide) (by decide))) ?_
          refine Ol.p noti ?_
          refine Ol.p mvb ?_
          refine Ol.gp rfl mvi ?_
          refine Ol.gp rfl remi ?_
          refine Ol.gp rfl eqi ?_
          refine Ol.gp rfl mvb ?_
          refine Ol.gn h12 ?_
          refine Ol.gn h12 ?_
          refine Ol.gn h12 ?_
          refine Ol.gn h12 ?_
          refine Ol.gn h12 ?_
          refine Ol.gn h12 ?_
          refine Ol.gn h12 ?_
          refine Ol.gn h12 ?_
          refine Ol.gn h12 ?_
          refine Ol.gp rfl (pkFb h12) ?_
          refine Ol.p (pkFb rfl) ?_
          refine Ol.p mvb ?_
          refine Ol.gp rfl mvi ?_
          refine Ol.gp rfl remi ?_
          refine Ol.gp rfl eqi ?_
          refine Ol.gp rfl mvb ?_
          refine Ol.gn h28 ?_
          refine Ol.gn h28 ?_
          refine Ol.gn h28 ?_
          refine Ol.gn h28 ?_
          refine Ol.gn h28 ?_
          refine Ol.gn h28 ?_
          refine Ol.gn h28 ?_
          refine Ol.gn h28 ?_
          refine Ol.gn h28 ?_
          refine Ol.gn h28 ?_
          refine Ol.gn h28 ?_
          refine Ol.gn h28 ?_
          refine Ol.gn h28 ?_
          refine Ol.gn h28 ?_
          refine Ol.gp rfl (pkFb h28) ?_
          refine Ol.p (pkFb rfl) ?_
          refine Ol.nil ?_
          exact ⟨⟨rfl, rfl, trivial⟩, Keep.nil⟩
        | true =>
          refine Cd.region ?_
          refine Ol.p (ldw (cs := #[.slice none 0 0, .slice A 3 c]) ag_api_Func (i := 0) rfl rfl) ?_
          refine Ol.p mvi ?_
          refine Ol.p remi ?_
          refine Ol.p mvi ?_
          refine Ol.p remi ?_
          refine Ol.x (bsv (ints [(n : Int).tmod 3]) sl_L_int zr_int (by simp [ints, Value.cells])) ?_
          rintro _ _ ⟨g55, rfl, rfl⟩
          refine Ol.s (cl (v := .bool true) (vs := [.agg #[.slice none 0 0, .slice A 3 c], .int .i64 ((n : Int).tmod 4), .slice (some ⟨g55, 0, none⟩) 1 1, .slice none 0 0]) en_law10_FlowTells (fun M w' hh => gtells_ct (tl := tl') (fr := [(n : Int).tmod 3]) (nt := []) (hT.now hh) htl' hok' hcap (by decide) (Reads.row hh (i := 2) rfl) rfl rfl (Reads.row hh (i := 0) rfl) Reads.none_ (i64l1 (by omega)) i64l0 (by decide) (by decide))) ?_
          refine Ol.p noti ?_
          refine Ol.p mvb ?_
          refine Ol.gp rfl mvi ?_
          refine Ol.gp rfl remi ?_
          refine Ol.gp rfl eqi ?_
          refine Ol.gp rfl mvb ?_
          refine Ol.gn h12 ?_
          refine Ol.gn h12 ?_
          refine Ol.gn h12 ?_
          refine Ol.gn h12 ?_
          refine Ol.gn h12 ?_
          refine Ol.gn h12 ?_
          refine Ol.gn h12 ?_
          refine Ol.gn h12 ?_
          refine Ol.gn h12 ?_
          refine Ol.gp rfl (pkFb h12) ?_
          refine Ol.p (pkFb rfl) ?_
          refine Ol.p mvb ?_
          refine Ol.gp rfl mvi ?_
          refine Ol.gp rfl remi ?_
          refine Ol.gp rfl eqi ?_
          refine Ol.gp rfl mvb ?_
          refine Ol.gp h28 mvs ?_
          refine Ol.gp h28 mvi ?_
          refine Ol.gp h28 remi ?_
          refine Ol.gp h28 (subi (hr := by omega)) ?_
          refine Ol.gs h28 (cl (v := (BN ⟨1, 0, (n : Int).tmod 7 - 1, 0⟩).val) en_law10_jump (fun M w' hh => law10_jump_ct)) ?_
          refine Ol.gx h28 (bs1 (cs := (BN ⟨1, 0, (n : Int).tmod 7 - 1, 0⟩).cells) sl_L_api_Block zr_api_Block rfl rfl) ?_
          rintro _ _ ⟨g84, rfl, rfl⟩
          refine Ol.gx h28 (apn (i := 3) (n := 3) (m := 1) sl_L_api_Block zr_api_Block rfl (by decide) rfl (Src.row (i := 0) rfl rfl) (RBlk.one _) (by unfold maxLen; omega) (by omega)) ?_
          rintro _ _ ⟨A2, c2, rfl, rfl⟩
          refine Ol.gp h28 (bds (cs := #[.slice none 0 0, .slice A2 4 c2]) bs_api_Func zr_api_Func (hf := by kernel_rfl)) ?_
          refine Ol.gx h28 (bsv (ints [3, 3, -1]) sl_L_int zr_int (by simp [ints, Value.cells])) ?_
          rintro _ _ ⟨g87, rfl, rfl⟩
          refine Ol.gp h28 mvi ?_
          refine Ol.gp h28 remi ?_
          refine Ol.gx h28 (bsv (ints [(n : Int).tmod 3]) sl_L_int zr_int (by simp [ints, Value.cells])) ?_
          rintro _ _ ⟨g90, rfl, rfl⟩
          refine Ol.gs h28 (cl (v := .bool true) (vs := [.agg #[.slice none 0 0, .slice A2 4 c2], .int .i64 3, .slice (some ⟨g87, 0, none⟩) 3 3, .slice (some ⟨g90, 0, none⟩) 1 1]) en_law10_FlowTells (fun M w' hh => gtells_ct (tl := tl' ++ [⟨1, 0, (n : Int).tmod 7 - 1, 0⟩]) (fr := [3, 3, -1]) (nt := [(n : Int).tmod 3]) (hT.now hh) (by simp [htl']) (gall_add (p := okG) (x := ⟨1, 0, (n : Int).tmod 7 - 1, 0⟩) hok' (okG_mk ⟨by omega, by omega, by omega, by omega⟩)) (cap_row (hh.has _ (List.mem_append_right _ (List.mem_of_getElem? (i := 5) rfl)))) (by decide) (by have q := Reads.row hh (i := 5) rfl; rw [gt_add] at q; exact q) rfl rfl (Reads.row hh (i := 1) rfl) (Reads.row hh (i := 0) rfl) (i64l3 (by omega)) (i64l1 (by omega)) (by decide) (by decide))) ?_
          refine Ol.gp h28 noti ?_
          refine Ol.gp rfl (pkTb h28) ?_
          refine Ol.p (pkFb rfl) ?_
          refine Ol.nil ?_
          exact ⟨⟨rfl, rfl, trivial⟩, Keep.nil⟩
      | true =>
        cases h28 : decide ((n : Int).tmod 50 = 0) with
        | false =>
          refine Cd.region ?_
          refine Ol.p (ldw (cs := #[.slice none 0 0, .slice A 3 c]) ag_api_Func (i := 0) rfl rfl) ?_
          refine Ol.p mvi ?_
          refine Ol.p remi ?_
          refine Ol.p mvi ?_
          refine Ol.p remi ?_
          refine Ol.x (bsv (ints [(n : Int).tmod 3]) sl_L_int zr_int (by simp [ints, Value.cells])) ?_
          rintro _ _ ⟨g55, rfl, rfl⟩
          refine Ol.s (cl (v := .bool true) (vs := [.agg #[.slice none 0 0, .slice A 3 c], .int .i64 ((n : Int).tmod 4), .slice (some ⟨g55, 0, none⟩) 1 1, .slice none 0 0]) en_law10_FlowTells (fun M w' hh => gtells_ct (tl := tl') (fr := [(n : Int).tmod 3]) (nt := []) (hT.now hh) htl' hok' hcap (by decide) (Reads.row hh (i := 2) rfl) rfl rfl (Reads.row hh (i := 0) rfl) Reads.none_ (i64l1 (by omega)) i64l0 (by decide) (by decide))) ?_
          refine Ol.p noti ?_
          refine Ol.p mvb ?_
          refine Ol.gp rfl mvi ?_
          refine Ol.gp rfl remi ?_
          refine Ol.gp rfl eqi ?_
          refine Ol.gp rfl mvb ?_
          refine Ol.gp h12 (ldw (cs := #[.slice none 0 0, .slice A 3 c]) ag_api_Func (i := 1) rfl rfl) ?_
          refine Ol.gp h12 mvi ?_
          refine Ol.gp h12 remi ?_
          refine Ol.gx h12 (bsv (ints [0, 2, 5]) sl_L_int zr_int (by simp [ints, Value.cells])) ?_
          rintro _ _ ⟨g66, rfl, rfl⟩
          refine Ol.gp h12 mvi ?_
          refine Ol.gp h12 remi ?_
          refine Ol.gx h12 (bsv (ints [(n : Int).tmod 4]) sl_L_int zr_int (by simp [ints, Value.cells])) ?_
          rintro _ _ ⟨g69, rfl, rfl⟩
          refine Ol.gs h12 (cl (v := .bool true) (vs := [.agg #[.slice none 0 0, .slice A 3 c], .int .i64 ((n : Int).tmod 3), .slice (some ⟨g66, 0, none⟩) 3 3, .slice (some ⟨g69, 0, none⟩) 1 1]) en_law10_FlowTells (fun M w' hh => gtells_ct (tl := tl') (fr := [0, 2, 5]) (nt := [(n : Int).tmod 4]) (hT.now hh) htl' hok' hcap (by decide) (Reads.row hh (i := 4) rfl) rfl rfl (Reads.row hh (i := 1) rfl) (Reads.row hh (i := 0) rfl) (i64l3 (by omega)) (i64l1 (by omega)) (by decide) (by decide))) ?_
          refine Ol.gp h12 noti ?_
          refine Ol.gp rfl (pkTb h12) ?_
          refine Ol.p (pkFb rfl) ?_
          refine Ol.p mvb ?_
          refine Ol.gp rfl mvi ?_
          refine Ol.gp rfl remi ?_
          refine Ol.gp rfl eqi ?_
          refine Ol.gp rfl mvb ?_
          refine Ol.gn h28 ?_
          refine Ol.gn h28 ?_
          refine Ol.gn h28 ?_
          refine Ol.gn h28 ?_
          refine Ol.gn h28 ?_
          refine Ol.gn h28 ?_
          refine Ol.gn h28 ?_
          refine Ol.gn h28 ?_
          refine Ol.gn h28 ?_
          refine Ol.gn h28 ?_
          refine Ol.gn h28 ?_
          refine Ol.gn h28 ?_
          refine Ol.gn h28 ?_
          refine Ol.gn h28 ?_
          refine Ol.gp rfl (pkFb h28) ?_
          refine Ol.p (pkFb rfl) ?_
          refine Ol.nil ?_
          exact ⟨⟨rfl, rfl, trivial⟩, Keep.nil⟩
        | true =>
          refine Cd.region ?_
          refine Ol.p (ldw (cs := #[.slice none 0 0, .slice A 3 c]) ag_api_Func (i := 0) rfl rfl) ?_
          refine Ol.p mvi ?_
          refine Ol.p remi ?_
          refine Ol.p mvi ?_
          refine Ol.p remi ?_
          refine Ol.x (bsv (ints [(n : Int).tmod 3]) sl_L_int zr_int (by simp [ints, Value.cells])) ?_
          rintro _ _ ⟨g55, rfl, rfl⟩
          refine Ol.s (cl (v := .bool true) (vs := [.agg #[.slice none 0 0, .slice A 3 c], .int .i64 ((n : Int).tmod 4), .slice (some ⟨g55, 0, none⟩) 1 1, .slice none 0 0]) en_law10_FlowTells (fun M w' hh => gtells_ct (tl := tl') (fr := [(n : Int).tmod 3]) (nt := []) (hT.now hh) htl' hok' hcap (by decide) (Reads.row hh (i := 2) rfl) rfl rfl (Reads.row hh (i := 0) rfl) Reads.none_ (i64l1 (by omega)) i64l0 (by decide) (by decide))) ?_
          refine Ol.p noti ?_
          refine Ol.p mvb ?_
          refine Ol.gp rfl mvi ?_
          refine Ol.gp rfl remi ?_
          refine Ol.gp rfl eqi ?_
          refine Ol.gp rfl mvb ?_
          refine Ol.gp h12 (ldw (cs := #[.slice none 0 0, .slice A 3 c]) ag_api_Func (i := 1) rfl rfl) ?_
          refine Ol.gp h12 mvi ?_
          refine Ol.gp h12 remi ?_
          refine Ol.gx h12 (bsv (ints [0, 2, 5]) sl_L_int zr_int (by simp [ints, Value.cells])) ?_
          rintro _ _ ⟨g66, rfl, rfl⟩
          refine Ol.gp h12 mvi ?_
          refine Ol.gp h12 remi ?_
          refine Ol.gx h12 (bsv (ints [(n : Int).tmod 4]) sl_L_int zr_int (by simp [ints, Value.cells])) ?_
          rintro _ _ ⟨g69, rfl, rfl⟩
          refine Ol.gs h12 (cl (v := .bool true) (vs := [.agg #[.slice none 0 0, .slice A 3 c], .int .i64 ((n : Int).tmod 3), .slice (some ⟨g66, 0, none⟩) 3 3, .slice (some ⟨g69, 0, none⟩) 1 1]) en_law10_FlowTells (fun M w' hh => gtells_ct (tl := tl') (fr := [0, 2, 5]) (nt := [(n : Int).tmod 4]) (hT.now hh) htl' hok' hcap (by decide) (Reads.row hh (i := 4) rfl) rfl rfl (Reads.row hh (i := 1) rfl) (Reads.row hh (i := 0) rfl) (i64l3 (by omega)) (i64l1 (by omega)) (by decide) (by decide))) ?_
          refine Ol.gp h12 noti ?_
          refine Ol.gp rfl (pkTb h12) ?_
          refine Ol.p (pkFb rfl) ?_
          refine Ol.p mvb ?_
          refine Ol.gp rfl mvi ?_
          refine Ol.gp rfl remi ?_
          refine Ol.gp rfl eqi ?_
          refine Ol.gp rfl mvb ?_
          refine Ol.gp h28 mvs ?_
          refine Ol.gp h28 mvi ?_
          refine Ol.gp h28 remi ?_
          refine Ol.gp h28 (subi (hr := by omega)) ?_
          refine Ol.gs h28 (cl (v := (BN ⟨1, 0, (n : Int).tmod 7 - 1, 0⟩).val) en_law10_jump (fun M w' hh => law10_jump_ct)) ?_
          refine Ol.gx h28 (bs1 (cs := (BN ⟨1, 0, (n : Int).tmod 7 - 1, 0⟩).cells) sl_L_api_Block zr_api_Block rfl rfl) ?_
          rintro _ _ ⟨g84, rfl, rfl⟩
          refine Ol.gx h28 (apn (i := 5) (n := 3) (m := 1) sl_L_api_Block zr_api_Block rfl (by decide) rfl (Src.row (i := 0) rfl rfl) (RBlk.one _) (by unfold maxLen; omega) (by omega)) ?_
          rintro _ _ ⟨A2, c2, rfl, rfl⟩
          refine Ol.gp h28 (bds (cs := #[.slice none 0 0, .slice A2 4 c2]) bs_api_Func zr_api_Func (hf := by kernel_rfl)) ?_
          refine Ol.gx h28 (bsv (ints [3, 3, -1]) sl_L_int zr_int (by simp [ints, Value.cells])) ?_
          rintro _ _ ⟨g87, rfl, rfl⟩
          refine Ol.gp h28 mvi ?_
          refine Ol.gp h28 remi ?_
          refine Ol.gx h28 (bsv (ints [(n : Int).tmod 3]) sl_L_int zr_int (by simp [ints, Value.cells])) ?_
          rintro _ _ ⟨g90, rfl, rfl⟩
          refine Ol.gs h28 (cl (v := .bool true) (vs := [.agg #[.slice none 0 0, .slice A2 4 c2], .int .i64 3, .slice (some ⟨g87, 0, none⟩) 3 3, .slice (some ⟨g90, 0, none⟩) 1 1]) en_law10_FlowTells (fun M w' hh => gtells_ct (tl := tl' ++ [⟨1, 0, (n : Int).tmod 7 - 1, 0⟩]) (fr := [3, 3, -1]) (nt := [(n : Int).tmod 3]) (hT.now hh) (by simp [htl']) (gall_add (p := okG) (x := ⟨1, 0, (n : Int).tmod 7 - 1, 0⟩) hok' (okG_mk ⟨by omega, by omega, by omega, by omega⟩)) (cap_row (hh.has _ (List.mem_append_right _ (List.mem_of_getElem? (i := 7) rfl)))) (by decide) (by have q := Reads.row hh (i := 7) rfl; rw [gt_add] at q; exact q) rfl rfl (Reads.row hh (i := 1) rfl) (Reads.row hh (i := 0) rfl) (i64l3 (by omega)) (i64l1 (by omega)) (by decide) (by decide))) ?_
          refine Ol.gp h28 noti ?_
          refine Ol.gp rfl (pkTb h28) ?_
          refine Ol.p (pkFb rfl) ?_
          refine Ol.nil ?_
          exact ⟨⟨rfl, rfl, trivial⟩, Keep.nil⟩
    rintro σ' L' ⟨hs', hkp⟩
    refine Cd.keep hkp ?_
    refine Cd.has hs' ?_
    clear hs' hkp
    refine Cd.cond rfl (fun h => nomatch h) (fun h => ?_)   -- $94
    refine Cd.skip ?_
    refine Cd.region ?_
    refine Ol.p mvi ?_
    refine Ol.p addi ?_
    refine Ol.p asi ?_
    refine Ol.nil ?_
    exact ⟨1728 - (n + 1), by omega, n + 1, rfl, by omega, ⟨rfl, trivial⟩, rfl⟩
  refine Cd.exit (id := 0) ?_
  refine Cd.seq ?_
  refine Cd.seq ?_
  refine Cd.region ?_
  refine Ol.p asi ?_
  refine Ol.nil ?_
  refine Cd.block ?_   -- 5
  refine Cd.loop (fun m σ L => ∃ n : Nat, m = 203 - n ∧ 198 ≤ n ∧ n ≤ 203 ∧ Has σ [(7, .int .i64 n)] ∧ [] = L) (n := 5) ⟨198, rfl, by omega, by omega, ⟨rfl, trivial⟩, rfl⟩ ?_
  rintro _ σ L ⟨n, rfl, hn1, hn2, hs, rfl⟩
  refine Cd.has hs ?_
  clear hs
  refine Cd.seq ?_
  refine Cd.seq ?_
  refine Cd.region ?_
  refine Ol.p mvi ?_
  refine Ol.p lsi ?_
  refine Ol.nil ?_
  refine Cd.cond rfl (fun h => ?_) (fun h => ?_)   -- $96
  · have hnl : n < 203 := by
      have h : decide ((n : Int) < 203) = true := h
      have := of_decide_eq_true h
      omega
    refine Cd.skip ?_
    refine Cd.seq ?_
    refine Cd.block ?_   -- 6
    refine Cd.seq ?_
    refine Cd.region ?_
    refine Ol.p mvi ?_
    refine Ol.x (mks (n := n) (c := n) sl_L_api_Block zr_api_Block) ?_
    rintro _ _ ⟨g100, rfl, rfl⟩
    refine Ol.p ass ?_
    refine Ol.nil ?_
    rw [made_flat (zs := (Value.agg #[.slice none 0 0, .int .i64 0, .int .i64 0, .int .i64 0, .int .i64 0]).cells) (F := RBlk.cells) (s := 5) (z := BN ⟨0, 0, 0, 0⟩) rfl rfl (by decide), show List.replicate n (BN ⟨0, 0, 0, 0⟩) = (List.replicate n ⟨0, 0, 0, 0⟩).map BN by simp]
    refine Cd.seq ?_
    refine Cd.seq ?_
    refine Cd.region ?_
    refine Ol.p asi ?_
    refine Ol.nil ?_
    refine Cd.block ?_   -- 7
    refine Cd.loop (fun m σ L => ∃ (b : Nat) (tl : List Tm), m = n - b ∧ b ≤ n ∧ Has σ [(7, .int .i64 n), (8, .slice (some ⟨g100, 0, none⟩) n n), (9, .int .i64 b)] ∧ tl.length = n ∧ (∀ t ∈ tl, okG t) ∧ [BR (some ⟨g100, 0, none⟩) n n tl] = L) (n := n) ⟨0, List.replicate n ⟨0, 0, 0, 0⟩, rfl, Nat.zero_le _, ⟨rfl, rfl, rfl, trivial⟩, by simp, (fun t ht => by rw [(List.mem_replicate.1 ht).2]; exact okG_mk ⟨by omega, by omega, by omega, by omega⟩), rfl⟩ ?_
    rintro _ σ L ⟨b, tl, rfl, hb, hs, htl, hok, rfl⟩
    refine Cd.has hs ?_
    clear hs
    refine Cd.seq ?_
    refine Cd.seq ?_
    refine Cd.region ?_
    refine Ol.p mvi ?_
    refine Ol.p mvi ?_
    refine Ol.p lsi ?_
    refine Ol.nil ?_
    refine Cd.cond rfl (fun h => ?_) (fun h => ?_)   -- $103
    · have hbl : b < n := by
        have h : decide ((b : Int) < (n : Int)) = true := h
        have := of_decide_eq_true h
        omega
      obtain ⟨t1, ht1⟩ : ∃ t1 : Int, t1 = ((b : Int) + 1).tmod n := ⟨_, rfl⟩
      have ht1b : t1 = (((b + 1) % n : Nat) : Int) := ht1
      have ht1c : (b + 1) % n < n := Nat.mod_lt _ (by omega)
      refine Cd.skip ?_
      refine Cd.seq ?_
      refine Cd.block ?_   -- 8
      refine Cd.region ?_
      refine Ol.p mvs ?_
      refine Ol.p mvi ?_
      refine Ol.p mvi ?_
      refine Ol.p addi ?_
      refine Ol.p mvi ?_
      refine Ol.p remi ?_
      refine Ol.p mvi ?_
      refine Ol.p quoi ?_
      refine Ol.s (cl (v := (BN ⟨2, 1, ((b : Int) + 1).tmod n, IntKind.i64.wrap ((b : Int).tdiv 2)⟩).val) en_law10_branch (fun M w' hh => law10_branch_ct)) ?_
      refine Ol.p (ixn (ix := b) sl_L_api_Block (Som.row (i := 0) rfl (by omega))) ?_
      refine Ol.s (stra (i := 0) (k := b * 5) (m := 5) (vs := (BN ⟨2, 1, ((b : Int) + 1).tmod n, IntKind.i64.wrap ((b : Int).tdiv 2)⟩).cells.toArray) sz_api_Block rfl (by decide) (RBlk.one _) rfl (by rw [gt_len]; omega)) ?_
      refine Ol.nil ?_
      refine Cd.region ?_
      refine Ol.p mvi ?_
      refine Ol.p addi ?_
      refine Ol.p asi ?_
      refine Ol.nil ?_
      refine ⟨n - (b + 1), by omega, b + 1, tl.set b ⟨2, 1, ((b : Int) + 1).tmod n, IntKind.i64.wrap ((b : Int).tdiv 2)⟩, rfl, by omega, ⟨rfl, rfl, rfl, trivial⟩, by simp [htl], gall_set hok (okG_mk ⟨by omega, by omega, by rw [← ht1, ht1b]; omega, by have := quog (n := b) (k := 2) (by omega); have e : ((2 : Nat) : Int) = 2 := rfl; rw [e] at this; rw [this]; omega⟩), ?_⟩
      unfold BR
      rw [← gt_store (by omega)]
      rfl
    have hbe : b = n := by
      have h : decide ((b : Int) < (n : Int)) = false := h
      have := of_decide_eq_false h
      omega
    refine Cd.exit (id := 7) ?_
    refine Cd.seq ?_
    refine Cd.region ?_
    refine Ol.p mvs ?_
    refine Ol.p (bds (cs := #[.slice none 0 0, .slice (some ⟨g100, 0, none⟩) n n]) bs_api_Func zr_api_Func (hf := by kernel_rfl)) ?_
    refine Ol.p mvi ?_
    refine Ol.p (subi (hr := by omega)) ?_
    refine Ol.p mvi ?_
    refine Ol.p (subi (hr := by omega)) ?_
    refine Ol.x (bsv (ints [(n : Int) - 1]) sl_L_int zr_int (by simp [ints, Value.cells])) ?_
    rintro _ _ ⟨g122, rfl, rfl⟩
    refine Ol.p mvi ?_
    refine Ol.p quoi ?_
    refine Ol.x (bsv (ints [IntKind.i64.wrap ((n : Int).tdiv 2)]) sl_L_int zr_int (by simp [ints, Value.cells])) ?_
    rintro _ _ ⟨g125, rfl, rfl⟩
    refine Ol.s (cl (v := .bool true) (vs := [.agg #[.slice none 0 0, .slice (some ⟨g100, 0, none⟩) n n], .int .i64 ((n : Int) - 1), .slice (some ⟨g122, 0, none⟩) 1 1, .slice (some ⟨g125, 0, none⟩) 1 1]) en_law10_FlowTells (fun M w' hh => gtells_ct (tl := tl) (fr := [(n : Int) - 1]) (nt := [IntKind.i64.wrap ((n : Int).tdiv 2)]) (hT.now hh) htl hok (Nat.le_refl _) (by omega) (Reads.row hh (i := 2) rfl) rfl rfl (Reads.row hh (i := 1) rfl) (Reads.row hh (i := 0) rfl) (i64l1 (by omega)) (i64l1 (by have := quog (n := n) (k := 2) (by omega); have e : ((2 : Nat) : Int) = 2 := rfl; rw [e] at this; rw [this]; omega)) (by decide) (by decide))) ?_
    refine Ol.p noti ?_
    refine Ol.nil ?_
    refine Cd.cond rfl (fun h => nomatch h) (fun h => ?_)   -- $127
    refine Cd.skip ?_
    refine Cd.keep Keep.nil ?_
    refine Cd.region ?_
    refine Ol.p mvi ?_
    refine Ol.p addi ?_
    refine Ol.p asi ?_
    refine Ol.nil ?_
    exact ⟨203 - (n + 1), by omega, n + 1, rfl, by omega, by omega, ⟨rfl, trivial⟩, rfl⟩
  refine Cd.exit (id := 5) ?_
  refine Cd.seq ?_
  refine Cd.region ?_
  refine Ol.p (bds (cs := #[.slice none 0 0, .slice none 0 0]) bs_api_Func zr_api_Func (hf := by kernel_rfl)) ?_
  refine Ol.x (bsv (ints [0]) sl_L_int zr_int (by simp [ints, Value.cells])) ?_
  rintro _ _ ⟨g129, rfl, rfl⟩
  refine Ol.s (cl (v := .bool true) (vs := [.agg #[.slice none 0 0, .slice none 0 0], .int .i64 0, .slice (some ⟨g129, 0, none⟩) 1 1, .slice none 0 0]) en_law10_FlowTells (fun M w' hh => gtells_ct (tl := []) (fr := [0]) (nt := []) (hT.now hh) rfl (fun t ht => by cases ht) (Nat.le_refl _) (by decide) Reads.none_ rfl rfl (Reads.row hh (i := 0) rfl) Reads.none_ (i64l1 (by omega)) i64l0 (by decide) (by decide))) ?_
  refine Ol.p mvb ?_
  refine Ol.gs rfl (cl (v := .bool true) en_law10_awake (fun M w' hh => law10_awake_ct)) ?_
  refine Ol.p (pkTb rfl) ?_
  refine Ol.p asb ?_
  refine Ol.nil ?_
  exact Cd.ret ⟨.bool true, ret1 rfl rfl, [], Keep.nil, rfl, rfl⟩
end
end Go.Proofs.YtkefmjhagmacfaaGreatDoor

/- FlowGraphs (the tied card): for every input that can be read, the law FlowGraphs returns true and its arguments read as before. Conditions: the row, its listed table of math/bits tied to the text of the program. -/
namespace Go.Proofs.YtkefmjhagmacfaaGreatDoor
set_option linter.unusedVariables false
open Go Go.ChangeShapes Go.WideShapes Go.ChangeAt Go.RowKit
set_option maxRecDepth 100000

theorem flowGraphs_lifted (os : Os) (started : os.Started) (H : Type) (enc : TypeId × Value → H) :
    ReturnsInHanded {} Tryz.checked os 4 .any (fun w args => (Rows.flowGraphsSpec.pre enc Tryz.prog Tryz.f4 [] false w args ∧ laidMetH Tryz.prog tabL w) ∧ sizedMet enc Tryz.prog Tryz.f4 (OpenSpec.ofChange Rows.flowGraphsSpec) false w args)
      (Rows.flowGraphsSpec.post enc Tryz.prog Tryz.f4 false true false false) := by
  refine returnsInHanded_of_change_and (C := Tryz.checked) (X := fun w _ => laidMetH Tryz.prog tabL w) (fun _ _ _ hh h => h.of_heap hh) own_ started (by kernel_rfl) Tryz.func4
    (ChangeSpec.witness_shaped (enc := enc) (C := Tryz.checked) (os := os) (X := fun w _ => laidMetH Tryz.prog tabL w) false (World.doorLaid Tryz.prog 14 os) #[] 8 rfl (World.shaped_of_RefB (by kernel_rfl) (by kernel_rfl)) (by kernel_rfl) (by kernel_rfl) (by kernel_rfl) (door_met os _)) ?_
  intro W base args ds gs before hval0 hW _ hsz0 hL _
  have hT := tabs_of_laid hL
  have hval : ∀ (j : Nat) t v, Tryz.f4.params[j]? = some t → args[j]? = some v → Value.okWide Tryz.prog W .any base t v := hval0
  have hW' := hW
  obtain ⟨p, q, hA0, hV, rfl, hfz, hnd⟩ := hW
  have hA : DataW.TrodAll enc Tryz.prog W 0 (fun _ => true) true Tryz.f4.params.toList args.toList ds p := hA0
  have hsz : (DataW.weightsEach Tryz.prog (Tryz.f4.params.toList ++ Rows.flowGraphsSpec.plain.varTypes Tryz.prog) (ds ++ gs)).all (· ≤ reachBytes) = true := hsz0
  rw [Tryz.params4] at hA hval hsz
  obtain ⟨hargs, rfl, rfl⟩ := trodAll_nil hA
  obtain rfl : args = #[] := by cases args; simp_all
  obtain ⟨rfl, rfl⟩ := trodVars_none hV
  clear hA0 hval0
  refine ((law10_FlowGraphs_ct hT).calls).mono fun e W' ⟨v, he, L, hh, hv, _⟩ => ?_
  subst hv
  subst he
  have bel := hh.below
  exact ⟨_, rfl, _, _, _, [], _, [], hW', trodAll_mk1 (shut_bool Tryz.underlying4 _), trodAll_mk0, rfl, bel.frame _, fun h => by cases h⟩
theorem flowGraphs_said : Rows.FlowGraphsSaid :=
  OpenClaim.holds_of_wide 4 Tryz.f4 rfl rfl rfl rfl rfl rfl rfl ⟨rfl, rfl, rfl, rfl, rfl⟩ rfl rfl rfl rfl rfl (by kernel_rfl) Tryz.func4 (by kernel_rfl)
    (of_decide_eq_true (by kernel_rfl)) (by unfold Func.isWrapper; rw [if_neg (of_decide_eq_false (by kernel_rfl))]; exact ⟨rfl, rfl⟩)
    (fun os started H enc _ => flowGraphs_lifted os started H enc)
theorem flowGraphs_card : Rows.FlowGraphsCardSaid :=
  Claim7.holds_tied_plain_at .later [] [.data] true Rows.flowGraphsCard.stood.harness false flowGraphs_said (fun _ h => by cases h) (by kernel_rfl) (fun _ h => by cases h) flowGraphs_row_tie rfl ⟨rfl, rfl⟩ (by kernel_rfl) rfl
    (fun f fn hf hfn => by
      obtain rfl : f = 4 := Option.some.inj ((show Tryz.prog.funcNamed "intarsia/intarsialaw10.FlowGraphs" = some 4 by kernel_rfl).symm.trans hf) |>.symm
      obtain rfl : fn = Tryz.f4 := (Option.some.inj (Tryz.func4.symm.trans hfn)).symm
      exact ⟨by kernel_rfl, fun j t ht => by
        rw [Tryz.params4] at ht
        simp at ht⟩)
    (by kernel_rfl)
end Go.Proofs.YtkefmjhagmacfaaGreatDoor

