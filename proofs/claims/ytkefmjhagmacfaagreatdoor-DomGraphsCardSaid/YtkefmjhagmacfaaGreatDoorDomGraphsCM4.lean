/- Part 4 of the proof of DomGraphsC: the texts Flat0, Apart, Count, Siz, FlowTells, DrawU, RefF, IrVars, Pick, Law03, Ren, Most, RefG, RefH, IrTells, IrLit, RowSt, FlowGraphs, Repeat, Dom, Dom2, Has, Law11, DomLast, Ref11A, DomWay, Ref11B, one behind the other. -/
import Derived.Test.YtkefmjhagmacfaaGreatDoorDomGraphsCM3
/- The kit: lists that lie apart: at no lists, walked. -/
namespace Go.Proofs.YtkefmjhagmacfaaGreatDoor
set_option linter.unusedVariables false
open Go Go.RowKit
set_option maxRecDepth 100000
section
theorem kit_flatLimbs_nil {w : World} : Ct Tryz.prog 89 #[.slice none 0 0] w (Is (.bool true)) := by
  refine Ct.mk Tryz.func89 rfl rfl ?_
  refine Cd.seq ?_
  refine Cd.region ?_
  refine Ol.p asb ?_
  refine Ol.nil ?_
  refine Cd.seq ?_
  refine Cd.seq ?_
  refine Cd.region ?_
  refine Ol.p asi ?_
  refine Ol.nil ?_
  refine Cd.block ?_
  refine Cd.loop (fun m σ L => Has σ [(0, .slice none 0 0), (3, .int .i64 0)] ∧ [] = L) (n := 0) ⟨⟨rfl, rfl, trivial⟩, rfl⟩ ?_
  rintro _ σ L ⟨hs, rfl⟩
  refine Cd.has hs ?_
  clear hs
  refine Cd.seq ?_
  refine Cd.seq ?_
  refine Cd.region ?_
  refine Ol.p mvi ?_
  refine Ol.p mvs ?_
  refine Ol.p (lens sl_L_L_uint32) ?_
  refine Ol.p lsi ?_
  refine Ol.nil ?_
  refine Cd.cond rfl (fun h => absurd h (by decide)) (fun _ => ?_)
  refine Cd.exit (id := 0) ?_
  refine Cd.seq ?_
  refine Cd.region ?_
  refine Ol.p mvs ?_
  refine Ol.p (lens sl_L_L_uint32) ?_
  refine Ol.x (mks (n := 0) (c := 0) sl_L_L_uint32 zr_L_uint32) ?_
  rintro _ _ ⟨gm, rfl, rfl⟩
  refine Ol.p ass ?_
  refine Ol.nil ?_
  obtain ⟨VG, hVG⟩ : ∃ V, V = Value.slice (some ⟨gm, 0, none⟩) 0 0 := ⟨_, rfl⟩
  rw [← hVG]
  obtain ⟨LG, hLG⟩ : ∃ LG : List Res, LG = [row VG 140 1 0 ((madeCells (Value.slice none 0 0).cells (0 * 1)).toList.take (0 * 1))] := ⟨_, rfl⟩
  rw [← hLG]
  refine Cd.seq ?_
  refine Cd.seq ?_
  refine Cd.region ?_
  refine Ol.p asi ?_
  refine Ol.nil ?_
  refine Cd.block ?_
  refine Cd.loop (fun m σ L => Has σ [(0, .slice none 0 0), (5, VG), (6, .int .i64 0)] ∧ LG = L) (n := 0) ⟨⟨rfl, rfl, rfl, trivial⟩, rfl⟩ ?_
  rintro _ σ L ⟨hs, rfl⟩
  refine Cd.has hs ?_
  clear hs
  refine Cd.seq ?_
  refine Cd.seq ?_
  refine Cd.region ?_
  refine Ol.p mvi ?_
  refine Ol.p mvs ?_
  refine Ol.p (lens sl_L_L_uint32) ?_
  refine Ol.p lsi ?_
  refine Ol.nil ?_
  refine Cd.cond rfl (fun h => absurd h (by decide)) (fun _ => ?_)
  refine Cd.exit (id := 4) ?_
  refine Cd.seq ?_
  refine Cd.seq ?_
  refine Cd.region ?_
  refine Ol.p asi ?_
  refine Ol.nil ?_
  refine Cd.block ?_
  refine Cd.loop (fun m σ L => Has σ [(0, .slice none 0 0), (5, VG), (9, .int .i64 0)] ∧ LG = L) (n := 0) ⟨⟨rfl, rfl, rfl, trivial⟩, rfl⟩ ?_
  rintro _ σ L ⟨hs, rfl⟩
  refine Cd.has hs ?_
  clear hs
  refine Cd.seq ?_
  refine Cd.seq ?_
  refine Cd.region ?_
  refine Ol.p mvi ?_
  refine Ol.p mvs ?_
  refine Ol.p (lens sl_L_L_uint32) ?_
  refine Ol.p lsi ?_
  refine Ol.nil ?_
  refine Cd.cond rfl (fun h => absurd h (by decide)) (fun _ => ?_)
  refine Cd.exit (id := 8) ?_
  refine Cd.seq ?_
  refine Cd.seq ?_
  refine Cd.region ?_
  refine Ol.p asi ?_
  refine Ol.nil ?_
  refine Cd.block ?_
  refine Cd.loop (fun m σ L => Has σ [(0, .slice none 0 0), (5, VG), (11, .int .i64 0)] ∧ LG = L) (n := 0) ⟨⟨rfl, rfl, rfl, trivial⟩, rfl⟩ ?_
  rintro _ σ L ⟨hs, rfl⟩
  refine Cd.has hs ?_
  clear hs
  refine Cd.seq ?_
  refine Cd.seq ?_
  refine Cd.region ?_
  refine Ol.p mvi ?_
  refine Ol.p mvs ?_
  refine Ol.p (lens sl_L_L_uint32) ?_
  refine Ol.p lsi ?_
  refine Ol.nil ?_
  refine Cd.cond rfl (fun h => absurd h (by decide)) (fun _ => ?_)
  refine Cd.exit (id := 12) ?_
  refine Cd.seq ?_
  refine Cd.seq ?_
  refine Cd.region ?_
  refine Ol.p asi ?_
  refine Ol.nil ?_
  refine Cd.block ?_
  refine Cd.loop (fun m σ L => Has σ [(0, .slice none 0 0), (5, VG), (14, .int .i64 0)] ∧ LG = L) (n := 0) ⟨⟨rfl, rfl, rfl, trivial⟩, rfl⟩ ?_
  rintro _ σ L ⟨hs, rfl⟩
  refine Cd.has hs ?_
  clear hs
  refine Cd.seq ?_
  refine Cd.seq ?_
  refine Cd.region ?_
  refine Ol.p mvi ?_
  refine Ol.p mvs ?_
  refine Ol.p (lens sl_L_L_uint32) ?_
  refine Ol.p lsi ?_
  refine Ol.nil ?_
  refine Cd.cond rfl (fun h => absurd h (by decide)) (fun _ => ?_)
  refine Cd.exit (id := 16) ?_
  refine Cd.seq ?_
  refine Cd.region ?_
  refine Ol.p asb ?_
  refine Ol.nil ?_
  exact Cd.ret ⟨.bool true, ret1 rfl rfl, [], Keep.nil, rfl, rfl⟩
theorem kit_flatWords_nil {w : World} : Ct Tryz.prog 90 #[.slice none 0 0] w (Is (.bool true)) := by
  refine Ct.mk Tryz.func90 rfl rfl ?_
  refine Cd.seq ?_
  refine Cd.region ?_
  refine Ol.p asb ?_
  refine Ol.nil ?_
  refine Cd.seq ?_
  refine Cd.seq ?_
  refine Cd.region ?_
  refine Ol.p asi ?_
  refine Ol.nil ?_
  refine Cd.block ?_
  refine Cd.loop (fun m σ L => Has σ [(0, .slice none 0 0), (3, .int .i64 0)] ∧ [] = L) (n := 0) ⟨⟨rfl, rfl, trivial⟩, rfl⟩ ?_
  rintro _ σ L ⟨hs, rfl⟩
  refine Cd.has hs ?_
  clear hs
  refine Cd.seq ?_
  refine Cd.seq ?_
  refine Cd.region ?_
  refine Ol.p mvi ?_
  refine Ol.p mvs ?_
  refine Ol.p (lens sl_L_L_uint64) ?_
  refine Ol.p lsi ?_
  refine Ol.nil ?_
  refine Cd.cond rfl (fun h => absurd h (by decide)) (fun _ => ?_)
  refine Cd.exit (id := 0) ?_
  refine Cd.seq ?_
  refine Cd.region ?_
  refine Ol.p mvs ?_
  refine Ol.p (lens sl_L_L_uint64) ?_
  refine Ol.x (mks (n := 0) (c := 0) sl_L_L_uint64 zr_L_uint64) ?_
  rintro _ _ ⟨gm, rfl, rfl⟩
  refine Ol.p ass ?_
  refine Ol.nil ?_
  obtain ⟨VG, hVG⟩ : ∃ V, V = Value.slice (some ⟨gm, 0, none⟩) 0 0 := ⟨_, rfl⟩
  rw [← hVG]
  obtain ⟨LG, hLG⟩ : ∃ LG : List Res, LG = [row VG 142 1 0 ((madeCells (Value.slice none 0 0).cells (0 * 1)).toList.take (0 * 1))] := ⟨_, rfl⟩
  rw [← hLG]
  refine Cd.seq ?_
  refine Cd.seq ?_
  refine Cd.region ?_
  refine Ol.p asi ?_
  refine Ol.nil ?_
  refine Cd.block ?_
  refine Cd.loop (fun m σ L => Has σ [(0, .slice none 0 0), (5, VG), (6, .int .i64 0)] ∧ LG = L) (n := 0) ⟨⟨rfl, rfl, rfl, trivial⟩, rfl⟩ ?_
  rintro _ σ L ⟨hs, rfl⟩
  refine Cd.has hs ?_
  clear hs
  refine Cd.seq ?_
  refine Cd.seq ?_
  refine Cd.region ?_
  refine Ol.p mvi ?_
  refine Ol.p mvs ?_
  refine Ol.p (lens sl_L_L_uint64) ?_
  refine Ol.p lsi ?_
  refine Ol.nil ?_
  refine Cd.cond rfl (fun h => absurd h (by decide)) (fun _ => ?_)
  refine Cd.exit (id := 4) ?_
  refine Cd.seq ?_
  refine Cd.seq ?_
  refine Cd.region ?_
  refine Ol.p asi ?_
  refine Ol.nil ?_
  refine Cd.block ?_
  refine Cd.loop (fun m σ L => Has σ [(0, .slice none 0 0), (5, VG), (9, .int .i64 0)] ∧ LG = L) (n := 0) ⟨⟨rfl, rfl, rfl, trivial⟩, rfl⟩ ?_
  rintro _ σ L ⟨hs, rfl⟩
  refine Cd.has hs ?_
  clear hs
  refine Cd.seq ?_
  refine Cd.seq ?_
  refine Cd.region ?_
  refine Ol.p mvi ?_
  refine Ol.p mvs ?_
  refine Ol.p (lens sl_L_L_uint64) ?_
  refine Ol.p lsi ?_
  refine Ol.nil ?_
  refine Cd.cond rfl (fun h => absurd h (by decide)) (fun _ => ?_)
  refine Cd.exit (id := 8) ?_
  refine Cd.seq ?_
  refine Cd.seq ?_
  refine Cd.region ?_
  refine Ol.p asi ?_
  refine Ol.nil ?_
  refine Cd.block ?_
  refine Cd.loop (fun m σ L => Has σ [(0, .slice none 0 0), (5, VG), (11, .int .i64 0)] ∧ LG = L) (n := 0) ⟨⟨rfl, rfl, rfl, trivial⟩, rfl⟩ ?_
  rintro _ σ L ⟨hs, rfl⟩
  refine Cd.has hs ?_
  clear hs
  refine Cd.seq ?_
  refine Cd.seq ?_
  refine Cd.region ?_
  refine Ol.p mvi ?_
  refine Ol.p mvs ?_
  refine Ol.p (lens sl_L_L_uint64) ?_
  refine Ol.p lsi ?_
  refine Ol.nil ?_
  refine Cd.cond rfl (fun h => absurd h (by decide)) (fun _ => ?_)
  refine Cd.exit (id := 12) ?_
  refine Cd.seq ?_
  refine Cd.seq ?_
  refine Cd.region ?_
  refine Ol.p asi ?_
  refine Ol.nil ?_
  refine Cd.block ?_
  refine Cd.loop (fun m σ L => Has σ [(0, .slice none 0 0), (5, VG), (14, .int .i64 0)] ∧ LG = L) (n := 0) ⟨⟨rfl, rfl, rfl, trivial⟩, rfl⟩ ?_
  rintro _ σ L ⟨hs, rfl⟩
  refine Cd.has hs ?_
  clear hs
  refine Cd.seq ?_
  refine Cd.seq ?_
  refine Cd.region ?_
  refine Ol.p mvi ?_
  refine Ol.p mvs ?_
  refine Ol.p (lens sl_L_L_uint64) ?_
  refine Ol.p lsi ?_
  refine Ol.nil ?_
  refine Cd.cond rfl (fun h => absurd h (by decide)) (fun _ => ?_)
  refine Cd.exit (id := 16) ?_
  refine Cd.seq ?_
  refine Cd.region ?_
  refine Ol.p asb ?_
  refine Ol.nil ?_
  exact Cd.ret ⟨.bool true, ret1 rfl rfl, [], Keep.nil, rfl, rfl⟩
theorem kit_flatLongs_nil {w : World} : Ct Tryz.prog 92 #[.slice none 0 0] w (Is (.bool true)) := by
  refine Ct.mk Tryz.func92 rfl rfl ?_
  refine Cd.seq ?_
  refine Cd.region ?_
  refine Ol.p asb ?_
  refine Ol.nil ?_
  refine Cd.seq ?_
  refine Cd.seq ?_
  refine Cd.region ?_
  refine Ol.p asi ?_
  refine Ol.nil ?_
  refine Cd.block ?_
  refine Cd.loop (fun m σ L => Has σ [(0, .slice none 0 0), (3, .int .i64 0)] ∧ [] = L) (n := 0) ⟨⟨rfl, rfl, trivial⟩, rfl⟩ ?_
  rintro _ σ L ⟨hs, rfl⟩
  refine Cd.has hs ?_
  clear hs
  refine Cd.seq ?_
  refine Cd.seq ?_
  refine Cd.region ?_
  refine Ol.p mvi ?_
  refine Ol.p mvs ?_
  refine Ol.p (lens sl_L_L_int64) ?_
  refine Ol.p lsi ?_
  refine Ol.nil ?_
  refine Cd.cond rfl (fun h => absurd h (by decide)) (fun _ => ?_)
  refine Cd.exit (id := 0) ?_
  refine Cd.seq ?_
  refine Cd.region ?_
  refine Ol.p mvs ?_
  refine Ol.p (lens sl_L_L_int64) ?_
  refine Ol.x (mks (n := 0) (c := 0) sl_L_L_int64 zr_L_int64) ?_
  rintro _ _ ⟨gm, rfl, rfl⟩
  refine Ol.p ass ?_
  refine Ol.nil ?_
  obtain ⟨VG, hVG⟩ : ∃ V, V = Value.slice (some ⟨gm, 0, none⟩) 0 0 := ⟨_, rfl⟩
  rw [← hVG]
  obtain ⟨LG, hLG⟩ : ∃ LG : List Res, LG = [row VG 143 1 0 ((madeCells (Value.slice none 0 0).cells (0 * 1)).toList.take (0 * 1))] := ⟨_, rfl⟩
  rw [← hLG]
  refine Cd.seq ?_
  refine Cd.seq ?_
  refine Cd.region ?_
  refine Ol.p asi ?_
  refine Ol.nil ?_
  refine Cd.block ?_
  refine Cd.loop (fun m σ L => Has σ [(0, .slice none 0 0), (5, VG), (6, .int .i64 0)] ∧ LG = L) (n := 0) ⟨⟨rfl, rfl, rfl, trivial⟩, rfl⟩ ?_
  rintro _ σ L ⟨hs, rfl⟩
  refine Cd.has hs ?_
  clear hs
  refine Cd.seq ?_
  refine Cd.seq ?_
  refine Cd.region ?_
  refine Ol.p mvi ?_
  refine Ol.p mvs ?_
  refine Ol.p (lens sl_L_L_int64) ?_
  refine Ol.p lsi ?_
  refine Ol.nil ?_
  refine Cd.cond rfl (fun h => absurd h (by decide)) (fun _ => ?_)
  refine Cd.exit (id := 4) ?_
  refine Cd.seq ?_
  refine Cd.seq ?_
  refine Cd.region ?_
  refine Ol.p asi ?_
  refine Ol.nil ?_
  refine Cd.block ?_
  refine Cd.loop (fun m σ L => Has σ [(0, .slice none 0 0), (5, VG), (9, .int .i64 0)] ∧ LG = L) (n := 0) ⟨⟨rfl, rfl, rfl, trivial⟩, rfl⟩ ?_
  rintro _ σ L ⟨hs, rfl⟩
  refine Cd.has hs ?_
  clear hs
  refine Cd.seq ?_
  refine Cd.seq ?_
  refine Cd.region ?_
  refine Ol.p mvi ?_
  refine Ol.p mvs ?_
  refine Ol.p (lens sl_L_L_int64) ?_
  refine Ol.p lsi ?_
  refine Ol.nil ?_
  refine Cd.cond rfl (fun h => absurd h (by decide)) (fun _ => ?_)
  refine Cd.exit (id := 8) ?_
  refine Cd.seq ?_
  refine Cd.seq ?_
  refine Cd.region ?_
  refine Ol.p asi ?_
  refine Ol.nil ?_
  refine Cd.block ?_
  refine Cd.loop (fun m σ L => Has σ [(0, .slice none 0 0), (5, VG), (11, .int .i64 0)] ∧ LG = L) (n := 0) ⟨⟨rfl, rfl, rfl, trivial⟩, rfl⟩ ?_
  rintro _ σ L ⟨hs, rfl⟩
  refine Cd.has hs ?_
  clear hs
  refine Cd.seq ?_
  refine Cd.seq ?_
  refine Cd.region ?_
  refine Ol.p mvi ?_
  refine Ol.p mvs ?_
  refine Ol.p (lens sl_L_L_int64) ?_
  refine Ol.p lsi ?_
  refine Ol.nil ?_
  refine Cd.cond rfl (fun h => absurd h (by decide)) (fun _ => ?_)
  refine Cd.exit (id := 12) ?_
  refine Cd.seq ?_
  refine Cd.seq ?_
  refine Cd.region ?_
  refine Ol.p asi ?_
  refine Ol.nil ?_
  refine Cd.block ?_
  refine Cd.loop (fun m σ L => Has σ [(0, .slice none 0 0), (5, VG), (14, .int .i64 0)] ∧ LG = L) (n := 0) ⟨⟨rfl, rfl, rfl, trivial⟩, rfl⟩ ?_
  rintro _ σ L ⟨hs, rfl⟩
  refine Cd.has hs ?_
  clear hs
  refine Cd.seq ?_
  refine Cd.seq ?_
  refine Cd.region ?_
  refine Ol.p mvi ?_
  refine Ol.p mvs ?_
  refine Ol.p (lens sl_L_L_int64) ?_
  refine Ol.p lsi ?_
  refine Ol.nil ?_
  refine Cd.cond rfl (fun h => absurd h (by decide)) (fun _ => ?_)
  refine Cd.exit (id := 16) ?_
  refine Cd.seq ?_
  refine Cd.region ?_
  refine Ol.p asb ?_
  refine Ol.nil ?_
  exact Cd.ret ⟨.bool true, ret1 rfl rfl, [], Keep.nil, rfl, rfl⟩
theorem kit_flatTexts_nil {w : World} : Ct Tryz.prog 93 #[.slice none 0 0] w (Is (.bool true)) := by
  refine Ct.mk Tryz.func93 rfl rfl ?_
  refine Cd.seq ?_
  refine Cd.region ?_
  refine Ol.p asb ?_
  refine Ol.nil ?_
  refine Cd.seq ?_
  refine Cd.seq ?_
  refine Cd.region ?_
  refine Ol.p asi ?_
  refine Ol.nil ?_
  refine Cd.block ?_
  refine Cd.loop (fun m σ L => Has σ [(0, .slice none 0 0), (3, .int .i64 0)] ∧ [] = L) (n := 0) ⟨⟨rfl, rfl, trivial⟩, rfl⟩ ?_
  rintro _ σ L ⟨hs, rfl⟩
  refine Cd.has hs ?_
  clear hs
  refine Cd.seq ?_
  refine Cd.seq ?_
  refine Cd.region ?_
  refine Ol.p mvi ?_
  refine Ol.p mvs ?_
  refine Ol.p (lens sl_L_L_string) ?_
  refine Ol.p lsi ?_
  refine Ol.nil ?_
  refine Cd.cond rfl (fun h => absurd h (by decide)) (fun _ => ?_)
  refine Cd.exit (id := 0) ?_
  refine Cd.seq ?_
  refine Cd.region ?_
  refine Ol.p mvs ?_
  refine Ol.p (lens sl_L_L_string) ?_
  refine Ol.x (mks (n := 0) (c := 0) sl_L_L_string zr_L_string) ?_
  rintro _ _ ⟨gm, rfl, rfl⟩
  refine Ol.p ass ?_
  refine Ol.nil ?_
  obtain ⟨VG, hVG⟩ : ∃ V, V = Value.slice (some ⟨gm, 0, none⟩) 0 0 := ⟨_, rfl⟩
  rw [← hVG]
  obtain ⟨LG, hLG⟩ : ∃ LG : List Res, LG = [row VG 144 1 0 ((madeCells (Value.slice none 0 0).cells (0 * 1)).toList.take (0 * 1))] := ⟨_, rfl⟩
  rw [← hLG]
  refine Cd.seq ?_
  refine Cd.seq ?_
  refine Cd.region ?_
  refine Ol.p asi ?_
  refine Ol.nil ?_
  refine Cd.block ?_
  refine Cd.loop (fun m σ L => Has σ [(0, .slice none 0 0), (5, VG), (6, .int .i64 0)] ∧ LG = L) (n := 0) ⟨⟨rfl, rfl, rfl, trivial⟩, rfl⟩ ?_
  rintro _ σ L ⟨hs, rfl⟩
  refine Cd.has hs ?_
  clear hs
  refine Cd.seq ?_
  refine Cd.seq ?_
  refine Cd.region ?_
  refine Ol.p mvi ?_
  refine Ol.p mvs ?_
  refine Ol.p (lens sl_L_L_string) ?_
  refine Ol.p lsi ?_
  refine Ol.nil ?_
  refine Cd.cond rfl (fun h => absurd h (by decide)) (fun _ => ?_)
  refine Cd.exit (id := 4) ?_
  refine Cd.seq ?_
  refine Cd.seq ?_
  refine Cd.region ?_
  refine Ol.p asi ?_
  refine Ol.nil ?_
  refine Cd.block ?_
  refine Cd.loop (fun m σ L => Has σ [(0, .slice none 0 0), (5, VG), (9, .int .i64 0)] ∧ LG = L) (n := 0) ⟨⟨rfl, rfl, rfl, trivial⟩, rfl⟩ ?_
  rintro _ σ L ⟨hs, rfl⟩
  refine Cd.has hs ?_
  clear hs
  refine Cd.seq ?_
  refine Cd.seq ?_
  refine Cd.region ?_
  refine Ol.p mvi ?_
  refine Ol.p mvs ?_
  refine Ol.p (lens sl_L_L_string) ?_
  refine Ol.p lsi ?_
  refine Ol.nil ?_
  refine Cd.cond rfl (fun h => absurd h (by decide)) (fun _ => ?_)
  refine Cd.exit (id := 8) ?_
  refine Cd.seq ?_
  refine Cd.seq ?_
  refine Cd.region ?_
  refine Ol.p asi ?_
  refine Ol.nil ?_
  refine Cd.block ?_
  refine Cd.loop (fun m σ L => Has σ [(0, .slice none 0 0), (5, VG), (11, .int .i64 0)] ∧ LG = L) (n := 0) ⟨⟨rfl, rfl, rfl, trivial⟩, rfl⟩ ?_
  rintro _ σ L ⟨hs, rfl⟩
  refine Cd.has hs ?_
  clear hs
  refine Cd.seq ?_
  refine Cd.seq ?_
  refine Cd.region ?_
  refine Ol.p mvi ?_
  refine Ol.p mvs ?_
  refine Ol.p (lens sl_L_L_string) ?_
  refine Ol.p lsi ?_
  refine Ol.nil ?_
  refine Cd.cond rfl (fun h => absurd h (by decide)) (fun _ => ?_)
  refine Cd.exit (id := 12) ?_
  refine Cd.seq ?_
  refine Cd.seq ?_
  refine Cd.region ?_
  refine Ol.p asi ?_
  refine Ol.nil ?_
  refine Cd.block ?_
  refine Cd.loop (fun m σ L => Has σ [(0, .slice none 0 0), (5, VG), (14, .int .i64 0)] ∧ LG = L) (n := 0) ⟨⟨rfl, rfl, rfl, trivial⟩, rfl⟩ ?_
  rintro _ σ L ⟨hs, rfl⟩
  refine Cd.has hs ?_
  clear hs
  refine Cd.seq ?_
  refine Cd.seq ?_
  refine Cd.region ?_
  refine Ol.p mvi ?_
  refine Ol.p mvs ?_
  refine Ol.p (lens sl_L_L_string) ?_
  refine Ol.p lsi ?_
  refine Ol.nil ?_
  refine Cd.cond rfl (fun h => absurd h (by decide)) (fun _ => ?_)
  refine Cd.exit (id := 16) ?_
  refine Cd.seq ?_
  refine Cd.region ?_
  refine Ol.p asb ?_
  refine Ol.nil ?_
  exact Cd.ret ⟨.bool true, ret1 rfl rfl, [], Keep.nil, rfl, rfl⟩
theorem kit_flatBytes_nil {w : World} : Ct Tryz.prog 94 #[.slice none 0 0] w (Is (.bool true)) := by
  refine Ct.mk Tryz.func94 rfl rfl ?_
  refine Cd.seq ?_
  refine Cd.region ?_
  refine Ol.p asb ?_
  refine Ol.nil ?_
  refine Cd.seq ?_
  refine Cd.seq ?_
  refine Cd.region ?_
  refine Ol.p asi ?_
  refine Ol.nil ?_
  refine Cd.block ?_
  refine Cd.loop (fun m σ L => Has σ [(0, .slice none 0 0), (3, .int .i64 0)] ∧ [] = L) (n := 0) ⟨⟨rfl, rfl, trivial⟩, rfl⟩ ?_
  rintro _ σ L ⟨hs, rfl⟩
  refine Cd.has hs ?_
  clear hs
  refine Cd.seq ?_
  refine Cd.seq ?_
  refine Cd.region ?_
  refine Ol.p mvi ?_
  refine Ol.p mvs ?_
  refine Ol.p (lens sl_L_L_uint8) ?_
  refine Ol.p lsi ?_
  refine Ol.nil ?_
  refine Cd.cond rfl (fun h => absurd h (by decide)) (fun _ => ?_)
  refine Cd.exit (id := 0) ?_
  refine Cd.seq ?_
  refine Cd.region ?_
  refine Ol.p mvs ?_
  refine Ol.p (lens sl_L_L_uint8) ?_
  refine Ol.x (mks (n := 0) (c := 0) sl_L_L_uint8 zr_L_uint8) ?_
  rintro _ _ ⟨gm, rfl, rfl⟩
  refine Ol.p ass ?_
  refine Ol.nil ?_
  obtain ⟨VG, hVG⟩ : ∃ V, V = Value.slice (some ⟨gm, 0, none⟩) 0 0 := ⟨_, rfl⟩
  rw [← hVG]
  obtain ⟨LG, hLG⟩ : ∃ LG : List Res, LG = [row VG 146 1 0 ((madeCells (Value.slice none 0 0).cells (0 * 1)).toList.take (0 * 1))] := ⟨_, rfl⟩
  rw [← hLG]
  refine Cd.seq ?_
  refine Cd.seq ?_
  refine Cd.region ?_
  refine Ol.p asi ?_
  refine Ol.nil ?_
  refine Cd.block ?_
  refine Cd.loop (fun m σ L => Has σ [(0, .slice none 0 0), (5, VG), (6, .int .i64 0)] ∧ LG = L) (n := 0) ⟨⟨rfl, rfl, rfl, trivial⟩, rfl⟩ ?_
  rintro _ σ L ⟨hs, rfl⟩
  refine Cd.has hs ?_
  clear hs
  refine Cd.seq ?_
  refine Cd.seq ?_
  refine Cd.region ?_
  refine Ol.p mvi ?_
  refine Ol.p mvs ?_
  refine Ol.p (lens sl_L_L_uint8) ?_
  refine Ol.p lsi ?_
  refine Ol.nil ?_
  refine Cd.cond rfl (fun h => absurd h (by decide)) (fun _ => ?_)
  refine Cd.exit (id := 4) ?_
  refine Cd.seq ?_
  refine Cd.seq ?_
  refine Cd.region ?_
  refine Ol.p asi ?_
  refine Ol.nil ?_
  refine Cd.block ?_
  refine Cd.loop (fun m σ L => Has σ [(0, .slice none 0 0), (5, VG), (9, .int .i64 0)] ∧ LG = L) (n := 0) ⟨⟨rfl, rfl, rfl, trivial⟩, rfl⟩ ?_
  rintro _ σ L ⟨hs, rfl⟩
  refine Cd.has hs ?_
  clear hs
  refine Cd.seq ?_
  refine Cd.seq ?_
  refine Cd.region ?_
  refine Ol.p mvi ?_
  refine Ol.p mvs ?_
  refine Ol.p (lens sl_L_L_uint8) ?_
  refine Ol.p lsi ?_
  refine Ol.nil ?_
  refine Cd.cond rfl (fun h => absurd h (by decide)) (fun _ => ?_)
  refine Cd.exit (id := 8) ?_
  refine Cd.seq ?_
  refine Cd.seq ?_
  refine Cd.region ?_
  refine Ol.p asi ?_
  refine Ol.nil ?_
  refine Cd.block ?_
  refine Cd.loop (fun m σ L => Has σ [(0, .slice none 0 0), (5, VG), (11, .int .i64 0)] ∧ LG = L) (n := 0) ⟨⟨rfl, rfl, rfl, trivial⟩, rfl⟩ ?_
  rintro _ σ L ⟨hs, rfl⟩
  refine Cd.has hs ?_
  clear hs
  refine Cd.seq ?_
  refine Cd.seq ?_
  refine Cd.region ?_
  refine Ol.p mvi ?_
  refine Ol.p mvs ?_
  refine Ol.p (lens sl_L_L_uint8) ?_
  refine Ol.p lsi ?_
  refine Ol.nil ?_
  refine Cd.cond rfl (fun h => absurd h (by decide)) (fun _ => ?_)
  refine Cd.exit (id := 12) ?_
  refine Cd.seq ?_
  refine Cd.seq ?_
  refine Cd.region ?_
  refine Ol.p asi ?_
  refine Ol.nil ?_
  refine Cd.block ?_
  refine Cd.loop (fun m σ L => Has σ [(0, .slice none 0 0), (5, VG), (14, .int .i64 0)] ∧ LG = L) (n := 0) ⟨⟨rfl, rfl, rfl, trivial⟩, rfl⟩ ?_
  rintro _ σ L ⟨hs, rfl⟩
  refine Cd.has hs ?_
  clear hs
  refine Cd.seq ?_
  refine Cd.seq ?_
  refine Cd.region ?_
  refine Ol.p mvi ?_
  refine Ol.p mvs ?_
  refine Ol.p (lens sl_L_L_uint8) ?_
  refine Ol.p lsi ?_
  refine Ol.nil ?_
  refine Cd.cond rfl (fun h => absurd h (by decide)) (fun _ => ?_)
  refine Cd.exit (id := 16) ?_
  refine Cd.seq ?_
  refine Cd.region ?_
  refine Ol.p asb ?_
  refine Ol.nil ?_
  exact Cd.ret ⟨.bool true, ret1 rfl rfl, [], Keep.nil, rfl, rfl⟩
theorem kit_flatTruths_nil {w : World} : Ct Tryz.prog 95 #[.slice none 0 0] w (Is (.bool true)) := by
  refine Ct.mk Tryz.func95 rfl rfl ?_
  refine Cd.seq ?_
  refine Cd.region ?_
  refine Ol.p asb ?_
  refine Ol.nil ?_
  refine Cd.seq ?_
  refine Cd.seq ?_
  refine Cd.region ?_
  refine Ol.p asi ?_
  refine Ol.nil ?_
  refine Cd.block ?_
  refine Cd.loop (fun m σ L => Has σ [(0, .slice none 0 0), (3, .int .i64 0)] ∧ [] = L) (n := 0) ⟨⟨rfl, rfl, trivial⟩, rfl⟩ ?_
  rintro _ σ L ⟨hs, rfl⟩
  refine Cd.has hs ?_
  clear hs
  refine Cd.seq ?_
  refine Cd.seq ?_
  refine Cd.region ?_
  refine Ol.p mvi ?_
  refine Ol.p mvs ?_
  refine Ol.p (lens sl_L_L_bool) ?_
  refine Ol.p lsi ?_
  refine Ol.nil ?_
  refine Cd.cond rfl (fun h => absurd h (by decide)) (fun _ => ?_)
  refine Cd.exit (id := 0) ?_
  refine Cd.seq ?_
  refine Cd.region ?_
  refine Ol.p mvs ?_
  refine Ol.p (lens sl_L_L_bool) ?_
  refine Ol.x (mks (n := 0) (c := 0) sl_L_L_bool zr_L_bool) ?_
  rintro _ _ ⟨gm, rfl, rfl⟩
  refine Ol.p ass ?_
  refine Ol.nil ?_
  obtain ⟨VG, hVG⟩ : ∃ V, V = Value.slice (some ⟨gm, 0, none⟩) 0 0 := ⟨_, rfl⟩
  rw [← hVG]
  obtain ⟨LG, hLG⟩ : ∃ LG : List Res, LG = [row VG 79 1 0 ((madeCells (Value.slice none 0 0).cells (0 * 1)).toList.take (0 * 1))] := ⟨_, rfl⟩
  rw [← hLG]
  refine Cd.seq ?_
  refine Cd.seq ?_
  refine Cd.region ?_
  refine Ol.p asi ?_
  refine Ol.nil ?_
  refine Cd.block ?_
  refine Cd.loop (fun m σ L => Has σ [(0, .slice none 0 0), (5, VG), (6, .int .i64 0)] ∧ LG = L) (n := 0) ⟨⟨rfl, rfl, rfl, trivial⟩, rfl⟩ ?_
  rintro _ σ L ⟨hs, rfl⟩
  refine Cd.has hs ?_
  clear hs
  refine Cd.seq ?_
  refine Cd.seq ?_
  refine Cd.region ?_
  refine Ol.p mvi ?_
  refine Ol.p mvs ?_
  refine Ol.p (lens sl_L_L_bool) ?_
  refine Ol.p lsi ?_
  refine Ol.nil ?_
  refine Cd.cond rfl (fun h => absurd h (by decide)) (fun _ => ?_)
  refine Cd.exit (id := 4) ?_
  refine Cd.seq ?_
  refine Cd.seq ?_
  refine Cd.region ?_
  refine Ol.p asi ?_
  refine Ol.nil ?_
  refine Cd.block ?_
  refine Cd.loop (fun m σ L => Has σ [(0, .slice none 0 0), (5, VG), (9, .int .i64 0)] ∧ LG = L) (n := 0) ⟨⟨rfl, rfl, rfl, trivial⟩, rfl⟩ ?_
  rintro _ σ L ⟨hs, rfl⟩
  refine Cd.has hs ?_
  clear hs
  refine Cd.seq ?_
  refine Cd.seq ?_
  refine Cd.region ?_
  refine Ol.p mvi ?_
  refine Ol.p mvs ?_
  refine Ol.p (lens sl_L_L_bool) ?_
  refine Ol.p lsi ?_
  refine Ol.nil ?_
  refine Cd.cond rfl (fun h => absurd h (by decide)) (fun _ => ?_)
  refine Cd.exit (id := 8) ?_
  refine Cd.seq ?_
  refine Cd.seq ?_
  refine Cd.region ?_
  refine Ol.p asi ?_
  refine Ol.nil ?_
  refine Cd.block ?_
  refine Cd.loop (fun m σ L => Has σ [(0, .slice none 0 0), (5, VG), (11, .int .i64 0)] ∧ LG = L) (n := 0) ⟨⟨rfl, rfl, rfl, trivial⟩, rfl⟩ ?_
  rintro _ σ L ⟨hs, rfl⟩
  refine Cd.has hs ?_
  clear hs
  refine Cd.seq ?_
  refine Cd.seq ?_
  refine Cd.region ?_
  refine Ol.p mvi ?_
  refine Ol.p mvs ?_
  refine Ol.p (lens sl_L_L_bool) ?_
  refine Ol.p lsi ?_
  refine Ol.nil ?_
  refine Cd.cond rfl (fun h => absurd h (by decide)) (fun _ => ?_)
  refine Cd.exit (id := 12) ?_
  refine Cd.seq ?_
  refine Cd.seq ?_
  refine Cd.region ?_
  refine Ol.p asi ?_
  refine Ol.nil ?_
  refine Cd.block ?_
  refine Cd.loop (fun m σ L => Has σ [(0, .slice none 0 0), (5, VG), (14, .int .i64 0)] ∧ LG = L) (n := 0) ⟨⟨rfl, rfl, rfl, trivial⟩, rfl⟩ ?_
  rintro _ σ L ⟨hs, rfl⟩
  refine Cd.has hs ?_
  clear hs
  refine Cd.seq ?_
  refine Cd.seq ?_
  refine Cd.region ?_
  refine Ol.p mvi ?_
  refine Ol.p mvs ?_
  refine Ol.p (lens sl_L_L_bool) ?_
  refine Ol.p lsi ?_
  refine Ol.nil ?_
  refine Cd.cond rfl (fun h => absurd h (by decide)) (fun _ => ?_)
  refine Cd.exit (id := 16) ?_
  refine Cd.seq ?_
  refine Cd.region ?_
  refine Ol.p asb ?_
  refine Ol.nil ?_
  exact Cd.ret ⟨.bool true, ret1 rfl rfl, [], Keep.nil, rfl, rfl⟩
theorem kit_flatRow_nil {w : World} : Ct Tryz.prog 96 #[.slice none 0 0] w (Is (.bool true)) := by
  refine Ct.mk Tryz.func96 rfl rfl ?_
  refine Cd.seq ?_
  refine Cd.region ?_
  refine Ol.p asb ?_
  refine Ol.nil ?_
  refine Cd.seq ?_
  refine Cd.seq ?_
  refine Cd.region ?_
  refine Ol.p asi ?_
  refine Ol.nil ?_
  refine Cd.block ?_
  refine Cd.loop (fun m σ L => Has σ [(0, .slice none 0 0), (3, .int .i64 0)] ∧ [] = L) (n := 0) ⟨⟨rfl, rfl, trivial⟩, rfl⟩ ?_
  rintro _ σ L ⟨hs, rfl⟩
  refine Cd.has hs ?_
  clear hs
  refine Cd.seq ?_
  refine Cd.seq ?_
  refine Cd.region ?_
  refine Ol.p mvi ?_
  refine Ol.p mvs ?_
  refine Ol.p (lens sl_L_L_api_Ins) ?_
  refine Ol.p lsi ?_
  refine Ol.nil ?_
  refine Cd.cond rfl (fun h => absurd h (by decide)) (fun _ => ?_)
  refine Cd.exit (id := 0) ?_
  refine Cd.seq ?_
  refine Cd.region ?_
  refine Ol.p mvs ?_
  refine Ol.p (lens sl_L_L_api_Ins) ?_
  refine Ol.x (mks (n := 0) (c := 0) sl_L_L_api_Ins zr_L_api_Ins) ?_
  rintro _ _ ⟨gm, rfl, rfl⟩
  refine Ol.p ass ?_
  refine Ol.nil ?_
  obtain ⟨VG, hVG⟩ : ∃ V, V = Value.slice (some ⟨gm, 0, none⟩) 0 0 := ⟨_, rfl⟩
  rw [← hVG]
  obtain ⟨LG, hLG⟩ : ∃ LG : List Res, LG = [row VG 43 1 0 ((madeCells (Value.slice none 0 0).cells (0 * 1)).toList.take (0 * 1))] := ⟨_, rfl⟩
  rw [← hLG]
  refine Cd.seq ?_
  refine Cd.seq ?_
  refine Cd.region ?_
  refine Ol.p asi ?_
  refine Ol.nil ?_
  refine Cd.block ?_
  refine Cd.loop (fun m σ L => Has σ [(0, .slice none 0 0), (5, VG), (6, .int .i64 0)] ∧ LG = L) (n := 0) ⟨⟨rfl, rfl, rfl, trivial⟩, rfl⟩ ?_
  rintro _ σ L ⟨hs, rfl⟩
  refine Cd.has hs ?_
  clear hs
  refine Cd.seq ?_
  refine Cd.seq ?_
  refine Cd.region ?_
  refine Ol.p mvi ?_
  refine Ol.p mvs ?_
  refine Ol.p (lens sl_L_L_api_Ins) ?_
  refine Ol.p lsi ?_
  refine Ol.nil ?_
  refine Cd.cond rfl (fun h => absurd h (by decide)) (fun _ => ?_)
  refine Cd.exit (id := 4) ?_
  refine Cd.seq ?_
  refine Cd.seq ?_
  refine Cd.region ?_
  refine Ol.p asi ?_
  refine Ol.nil ?_
  refine Cd.block ?_
  refine Cd.loop (fun m σ L => Has σ [(0, .slice none 0 0), (5, VG), (9, .int .i64 0)] ∧ LG = L) (n := 0) ⟨⟨rfl, rfl, rfl, trivial⟩, rfl⟩ ?_
  rintro _ σ L ⟨hs, rfl⟩
  refine Cd.has hs ?_
  clear hs
  refine Cd.seq ?_
  refine Cd.seq ?_
  refine Cd.region ?_
  refine Ol.p mvi ?_
  refine Ol.p mvs ?_
  refine Ol.p (lens sl_L_L_api_Ins) ?_
  refine Ol.p lsi ?_
  refine Ol.nil ?_
  refine Cd.cond rfl (fun h => absurd h (by decide)) (fun _ => ?_)
  refine Cd.exit (id := 8) ?_
  refine Cd.seq ?_
  refine Cd.seq ?_
  refine Cd.region ?_
  refine Ol.p asi ?_
  refine Ol.nil ?_
  refine Cd.block ?_
  refine Cd.loop (fun m σ L => Has σ [(0, .slice none 0 0), (5, VG), (11, .int .i64 0)] ∧ LG = L) (n := 0) ⟨⟨rfl, rfl, rfl, trivial⟩, rfl⟩ ?_
  rintro _ σ L ⟨hs, rfl⟩
  refine Cd.has hs ?_
  clear hs
  refine Cd.seq ?_
  refine Cd.seq ?_
  refine Cd.region ?_
  refine Ol.p mvi ?_
  refine Ol.p mvs ?_
  refine Ol.p (lens sl_L_L_api_Ins) ?_
  refine Ol.p lsi ?_
  refine Ol.nil ?_
  refine Cd.cond rfl (fun h => absurd h (by decide)) (fun _ => ?_)
  refine Cd.exit (id := 12) ?_
  refine Cd.seq ?_
  refine Cd.seq ?_
  refine Cd.region ?_
  refine Ol.p asi ?_
  refine Ol.nil ?_
  refine Cd.block ?_
  refine Cd.loop (fun m σ L => Has σ [(0, .slice none 0 0), (5, VG), (14, .int .i64 0)] ∧ LG = L) (n := 0) ⟨⟨rfl, rfl, rfl, trivial⟩, rfl⟩ ?_
  rintro _ σ L ⟨hs, rfl⟩
  refine Cd.has hs ?_
  clear hs
  refine Cd.seq ?_
  refine Cd.seq ?_
  refine Cd.region ?_
  refine Ol.p mvi ?_
  refine Ol.p mvs ?_
  refine Ol.p (lens sl_L_L_api_Ins) ?_
  refine Ol.p lsi ?_
  refine Ol.nil ?_
  refine Cd.cond rfl (fun h => absurd h (by decide)) (fun _ => ?_)
  refine Cd.exit (id := 16) ?_
  refine Cd.seq ?_
  refine Cd.region ?_
  refine Ol.p asb ?_
  refine Ol.nil ?_
  exact Cd.ret ⟨.bool true, ret1 rfl rfl, [], Keep.nil, rfl, rfl⟩
theorem kit_flatBlocks_nil {w : World} : Ct Tryz.prog 97 #[.slice none 0 0] w (Is (.bool true)) := by
  refine Ct.mk Tryz.func97 rfl rfl ?_
  refine Cd.seq ?_
  refine Cd.region ?_
  refine Ol.p asb ?_
  refine Ol.nil ?_
  refine Cd.seq ?_
  refine Cd.seq ?_
  refine Cd.region ?_
  refine Ol.p asi ?_
  refine Ol.nil ?_
  refine Cd.block ?_
  refine Cd.loop (fun m σ L => Has σ [(0, .slice none 0 0), (3, .int .i64 0)] ∧ [] = L) (n := 0) ⟨⟨rfl, rfl, trivial⟩, rfl⟩ ?_
  rintro _ σ L ⟨hs, rfl⟩
  refine Cd.has hs ?_
  clear hs
  refine Cd.seq ?_
  refine Cd.seq ?_
  refine Cd.region ?_
  refine Ol.p mvi ?_
  refine Ol.p mvs ?_
  refine Ol.p (lens sl_L_L_api_Block) ?_
  refine Ol.p lsi ?_
  refine Ol.nil ?_
  refine Cd.cond rfl (fun h => absurd h (by decide)) (fun _ => ?_)
  refine Cd.exit (id := 0) ?_
  refine Cd.seq ?_
  refine Cd.region ?_
  refine Ol.p mvs ?_
  refine Ol.p (lens sl_L_L_api_Block) ?_
  refine Ol.x (mks (n := 0) (c := 0) sl_L_L_api_Block zr_L_api_Block) ?_
  rintro _ _ ⟨gm, rfl, rfl⟩
  refine Ol.p ass ?_
  refine Ol.nil ?_
  obtain ⟨VG, hVG⟩ : ∃ V, V = Value.slice (some ⟨gm, 0, none⟩) 0 0 := ⟨_, rfl⟩
  rw [← hVG]
  obtain ⟨LG, hLG⟩ : ∃ LG : List Res, LG = [row VG 23 1 0 ((madeCells (Value.slice none 0 0).cells (0 * 1)).toList.take (0 * 1))] := ⟨_, rfl⟩
  rw [← hLG]
  refine Cd.seq ?_
  refine Cd.seq ?_
  refine Cd.region ?_
  refine Ol.p asi ?_
  refine Ol.nil ?_
  refine Cd.block ?_
  refine Cd.loop (fun m σ L => Has σ [(0, .slice none 0 0), (5, VG), (6, .int .i64 0)] ∧ LG = L) (n := 0) ⟨⟨rfl, rfl, rfl, trivial⟩, rfl⟩ ?_
  rintro _ σ L ⟨hs, rfl⟩
  refine Cd.has hs ?_
  clear hs
  refine Cd.seq ?_
  refine Cd.seq ?_
  refine Cd.region ?_
  refine Ol.p mvi ?_
  refine Ol.p mvs ?_
  refine Ol.p (lens sl_L_L_api_Block) ?_
  refine Ol.p lsi ?_
  refine Ol.nil ?_
  refine Cd.cond rfl (fun h => absurd h (by decide)) (fun _ => ?_)
  refine Cd.exit (id := 4) ?_
  refine Cd.seq ?_
  refine Cd.seq ?_
  refine Cd.region ?_
  refine Ol.p asi ?_
  refine Ol.nil ?_
  refine Cd.block ?_
  refine Cd.loop (fun m σ L => Has σ [(0, .slice none 0 0), (5, VG), (9, .int .i64 0)] ∧ LG = L) (n := 0) ⟨⟨rfl, rfl, rfl, trivial⟩, rfl⟩ ?_
  rintro _ σ L ⟨hs, rfl⟩
  refine Cd.has hs ?_
  clear hs
  refine Cd.seq ?_
  refine Cd.seq ?_
  refine Cd.region ?_
  refine Ol.p mvi ?_
  refine Ol.p mvs ?_
  refine Ol.p (lens sl_L_L_api_Block) ?_
  refine Ol.p lsi ?_
  refine Ol.nil ?_
  refine Cd.cond rfl (fun h => absurd h (by decide)) (fun _ => ?_)
  refine Cd.exit (id := 8) ?_
  refine Cd.seq ?_
  refine Cd.seq ?_
  refine Cd.region ?_
  refine Ol.p asi ?_
  refine Ol.nil ?_
  refine Cd.block ?_
  refine Cd.loop (fun m σ L => Has σ [(0, .slice none 0 0), (5, VG), (11, .int .i64 0)] ∧ LG = L) (n := 0) ⟨⟨rfl, rfl, rfl, trivial⟩, rfl⟩ ?_
  rintro _ σ L ⟨hs, rfl⟩
  refine Cd.has hs ?_
  clear hs
  refine Cd.seq ?_
  refine Cd.seq ?_
  refine Cd.region ?_
  refine Ol.p mvi ?_
  refine Ol.p mvs ?_
  refine Ol.p (lens sl_L_L_api_Block) ?_
  refine Ol.p lsi ?_
  refine Ol.nil ?_
  refine Cd.cond rfl (fun h => absurd h (by decide)) (fun _ => ?_)
  refine Cd.exit (id := 12) ?_
  refine Cd.seq ?_
  refine Cd.seq ?_
  refine Cd.region ?_
  refine Ol.p asi ?_
  refine Ol.nil ?_
  refine Cd.block ?_
  refine Cd.loop (fun m σ L => Has σ [(0, .slice none 0 0), (5, VG), (14, .int .i64 0)] ∧ LG = L) (n := 0) ⟨⟨rfl, rfl, rfl, trivial⟩, rfl⟩ ?_
  rintro _ σ L ⟨hs, rfl⟩
  refine Cd.has hs ?_
  clear hs
  refine Cd.seq ?_
  refine Cd.seq ?_
  refine Cd.region ?_
  refine Ol.p mvi ?_
  refine Ol.p mvs ?_
  refine Ol.p (lens sl_L_L_api_Block) ?_
  refine Ol.p lsi ?_
  refine Ol.nil ?_
  refine Cd.cond rfl (fun h => absurd h (by decide)) (fun _ => ?_)
  refine Cd.exit (id := 16) ?_
  refine Cd.seq ?_
  refine Cd.region ?_
  refine Ol.p asb ?_
  refine Ol.nil ?_
  exact Cd.ret ⟨.bool true, ret1 rfl rfl, [], Keep.nil, rfl, rfl⟩
theorem kit_flatFuncs_nil {w : World} : Ct Tryz.prog 98 #[.slice none 0 0] w (Is (.bool true)) := by
  refine Ct.mk Tryz.func98 rfl rfl ?_
  refine Cd.seq ?_
  refine Cd.region ?_
  refine Ol.p asb ?_
  refine Ol.nil ?_
  refine Cd.seq ?_
  refine Cd.seq ?_
  refine Cd.region ?_
  refine Ol.p asi ?_
  refine Ol.nil ?_
  refine Cd.block ?_
  refine Cd.loop (fun m σ L => Has σ [(0, .slice none 0 0), (3, .int .i64 0)] ∧ [] = L) (n := 0) ⟨⟨rfl, rfl, trivial⟩, rfl⟩ ?_
  rintro _ σ L ⟨hs, rfl⟩
  refine Cd.has hs ?_
  clear hs
  refine Cd.seq ?_
  refine Cd.seq ?_
  refine Cd.region ?_
  refine Ol.p mvi ?_
  refine Ol.p mvs ?_
  refine Ol.p (lens sl_L_L_api_Func) ?_
  refine Ol.p lsi ?_
  refine Ol.nil ?_
  refine Cd.cond rfl (fun h => absurd h (by decide)) (fun _ => ?_)
  refine Cd.exit (id := 0) ?_
  refine Cd.seq ?_
  refine Cd.region ?_
  refine Ol.p mvs ?_
  refine Ol.p (lens sl_L_L_api_Func) ?_
  refine Ol.x (mks (n := 0) (c := 0) sl_L_L_api_Func zr_L_api_Func) ?_
  rintro _ _ ⟨gm, rfl, rfl⟩
  refine Ol.p ass ?_
  refine Ol.nil ?_
  obtain ⟨VG, hVG⟩ : ∃ V, V = Value.slice (some ⟨gm, 0, none⟩) 0 0 := ⟨_, rfl⟩
  rw [← hVG]
  obtain ⟨LG, hLG⟩ : ∃ LG : List Res, LG = [row VG 150 1 0 ((madeCells (Value.slice none 0 0).cells (0 * 1)).toList.take (0 * 1))] := ⟨_, rfl⟩
  rw [← hLG]
  refine Cd.seq ?_
  refine Cd.seq ?_
  refine Cd.region ?_
  refine Ol.p asi ?_
  refine Ol.nil ?_
  refine Cd.block ?_
  refine Cd.loop (fun m σ L => Has σ [(0, .slice none 0 0), (5, VG), (6, .int .i64 0)] ∧ LG = L) (n := 0) ⟨⟨rfl, rfl, rfl, trivial⟩, rfl⟩ ?_
  rintro _ σ L ⟨hs, rfl⟩
  refine Cd.has hs ?_
  clear hs
  refine Cd.seq ?_
  refine Cd.seq ?_
  refine Cd.region ?_
  refine Ol.p mvi ?_
  refine Ol.p mvs ?_
  refine Ol.p (lens sl_L_L_api_Func) ?_
  refine Ol.p lsi ?_
  refine Ol.nil ?_
  refine Cd.cond rfl (fun h => absurd h (by decide)) (fun _ => ?_)
  refine Cd.exit (id := 4) ?_
  refine Cd.seq ?_
  refine Cd.seq ?_
  refine Cd.region ?_
  refine Ol.p asi ?_
  refine Ol.nil ?_
  refine Cd.block ?_
  refine Cd.loop (fun m σ L => Has σ [(0, .slice none 0 0), (5, VG), (9, .int .i64 0)] ∧ LG = L) (n := 0) ⟨⟨rfl, rfl, rfl, trivial⟩, rfl⟩ ?_
  rintro _ σ L ⟨hs, rfl⟩
  refine Cd.has hs ?_
  clear hs
  refine Cd.seq ?_
  refine Cd.seq ?_
  refine Cd.region ?_
  refine Ol.p mvi ?_
  refine Ol.p mvs ?_
  refine Ol.p (lens sl_L_L_api_Func) ?_
  refine Ol.p lsi ?_
  refine Ol.nil ?_
  refine Cd.cond rfl (fun h => absurd h (by decide)) (fun _ => ?_)
  refine Cd.exit (id := 8) ?_
  refine Cd.seq ?_
  refine Cd.seq ?_
  refine Cd.region ?_
  refine Ol.p asi ?_
  refine Ol.nil ?_
  refine Cd.block ?_
  refine Cd.loop (fun m σ L => Has σ [(0, .slice none 0 0), (5, VG), (11, .int .i64 0)] ∧ LG = L) (n := 0) ⟨⟨rfl, rfl, rfl, trivial⟩, rfl⟩ ?_
  rintro _ σ L ⟨hs, rfl⟩
  refine Cd.has hs ?_
  clear hs
  refine Cd.seq ?_
  refine Cd.seq ?_
  refine Cd.region ?_
  refine Ol.p mvi ?_
  refine Ol.p mvs ?_
  refine Ol.p (lens sl_L_L_api_Func) ?_
  refine Ol.p lsi ?_
  refine Ol.nil ?_
  refine Cd.cond rfl (fun h => absurd h (by decide)) (fun _ => ?_)
  refine Cd.exit (id := 12) ?_
  refine Cd.seq ?_
  refine Cd.seq ?_
  refine Cd.region ?_
  refine Ol.p asi ?_
  refine Ol.nil ?_
  refine Cd.block ?_
  refine Cd.loop (fun m σ L => Has σ [(0, .slice none 0 0), (5, VG), (14, .int .i64 0)] ∧ LG = L) (n := 0) ⟨⟨rfl, rfl, rfl, trivial⟩, rfl⟩ ?_
  rintro _ σ L ⟨hs, rfl⟩
  refine Cd.has hs ?_
  clear hs
  refine Cd.seq ?_
  refine Cd.seq ?_
  refine Cd.region ?_
  refine Ol.p mvi ?_
  refine Ol.p mvs ?_
  refine Ol.p (lens sl_L_L_api_Func) ?_
  refine Ol.p lsi ?_
  refine Ol.nil ?_
  refine Cd.cond rfl (fun h => absurd h (by decide)) (fun _ => ?_)
  refine Cd.exit (id := 16) ?_
  refine Cd.seq ?_
  refine Cd.region ?_
  refine Ol.p asb ?_
  refine Ol.nil ?_
  exact Cd.ret ⟨.bool true, ret1 rfl rfl, [], Keep.nil, rfl, rfl⟩
theorem kit_flatTargets_nil {w : World} : Ct Tryz.prog 99 #[.slice none 0 0] w (Is (.bool true)) := by
  refine Ct.mk Tryz.func99 rfl rfl ?_
  refine Cd.seq ?_
  refine Cd.region ?_
  refine Ol.p asb ?_
  refine Ol.nil ?_
  refine Cd.seq ?_
  refine Cd.seq ?_
  refine Cd.region ?_
  refine Ol.p asi ?_
  refine Ol.nil ?_
  refine Cd.block ?_
  refine Cd.loop (fun m σ L => Has σ [(0, .slice none 0 0), (3, .int .i64 0)] ∧ [] = L) (n := 0) ⟨⟨rfl, rfl, trivial⟩, rfl⟩ ?_
  rintro _ σ L ⟨hs, rfl⟩
  refine Cd.has hs ?_
  clear hs
  refine Cd.seq ?_
  refine Cd.seq ?_
  refine Cd.region ?_
  refine Ol.p mvi ?_
  refine Ol.p mvs ?_
  refine Ol.p (lens sl_L_L_api_Target) ?_
  refine Ol.p lsi ?_
  refine Ol.nil ?_
  refine Cd.cond rfl (fun h => absurd h (by decide)) (fun _ => ?_)
  refine Cd.exit (id := 0) ?_
  refine Cd.seq ?_
  refine Cd.region ?_
  refine Ol.p mvs ?_
  refine Ol.p (lens sl_L_L_api_Target) ?_
  refine Ol.x (mks (n := 0) (c := 0) sl_L_L_api_Target zr_L_api_Target) ?_
  rintro _ _ ⟨gm, rfl, rfl⟩
  refine Ol.p ass ?_
  refine Ol.nil ?_
  obtain ⟨VG, hVG⟩ : ∃ V, V = Value.slice (some ⟨gm, 0, none⟩) 0 0 := ⟨_, rfl⟩
  rw [← hVG]
  obtain ⟨LG, hLG⟩ : ∃ LG : List Res, LG = [row VG 152 1 0 ((madeCells (Value.slice none 0 0).cells (0 * 1)).toList.take (0 * 1))] := ⟨_, rfl⟩
  rw [← hLG]
  refine Cd.seq ?_
  refine Cd.seq ?_
  refine Cd.region ?_
  refine Ol.p asi ?_
  refine Ol.nil ?_
  refine Cd.block ?_
  refine Cd.loop (fun m σ L => Has σ [(0, .slice none 0 0), (5, VG), (6, .int .i64 0)] ∧ LG = L) (n := 0) ⟨⟨rfl, rfl, rfl, trivial⟩, rfl⟩ ?_
  rintro _ σ L ⟨hs, rfl⟩
  refine Cd.has hs ?_
  clear hs
  refine Cd.seq ?_
  refine Cd.seq ?_
  refine Cd.region ?_
  refine Ol.p mvi ?_
  refine Ol.p mvs ?_
  refine Ol.p (lens sl_L_L_api_Target) ?_
  refine Ol.p lsi ?_
  refine Ol.nil ?_
  refine Cd.cond rfl (fun h => absurd h (by decide)) (fun _ => ?_)
  refine Cd.exit (id := 4) ?_
  refine Cd.seq ?_
  refine Cd.seq ?_
  refine Cd.region ?_
  refine Ol.p asi ?_
  refine Ol.nil ?_
  refine Cd.block ?_
  refine Cd.loop (fun m σ L => Has σ [(0, .slice none 0 0), (5, VG), (9, .int .i64 0)] ∧ LG = L) (n := 0) ⟨⟨rfl, rfl, rfl, trivial⟩, rfl⟩ ?_
  rintro _ σ L ⟨hs, rfl⟩
  refine Cd.has hs ?_
  clear hs
  refine Cd.seq ?_
  refine Cd.seq ?_
  refine Cd.region ?_
  refine Ol.p mvi ?_
  refine Ol.p mvs ?_
  refine Ol.p (lens sl_L_L_api_Target) ?_
  refine Ol.p lsi ?_
  refine Ol.nil ?_
  refine Cd.cond rfl (fun h => absurd h (by decide)) (fun _ => ?_)
  refine Cd.exit (id := 8) ?_
  refine Cd.seq ?_
  refine Cd.seq ?_
  refine Cd.region ?_
  refine Ol.p asi ?_
  refine Ol.nil ?_
  refine Cd.block ?_
  refine Cd.loop (fun m σ L => Has σ [(0, .slice none 0 0), (5, VG), (11, .int .i64 0)] ∧ LG = L) (n := 0) ⟨⟨rfl, rfl, rfl, trivial⟩, rfl⟩ ?_
  rintro _ σ L ⟨hs, rfl⟩
  refine Cd.has hs ?_
  clear hs
  refine Cd.seq ?_
  refine Cd.seq ?_
  refine Cd.region ?_
  refine Ol.p mvi ?_
  refine Ol.p mvs ?_
  refine Ol.p (lens sl_L_L_api_Target) ?_
  refine Ol.p lsi ?_
  refine Ol.nil ?_
  refine Cd.cond rfl (fun h => absurd h (by decide)) (fun _ => ?_)
  refine Cd.exit (id := 12) ?_
  refine Cd.seq ?_
  refine Cd.seq ?_
  refine Cd.region ?_
  refine Ol.p asi ?_
  refine Ol.nil ?_
  refine Cd.block ?_
  refine Cd.loop (fun m σ L => Has σ [(0, .slice none 0 0), (5, VG), (14, .int .i64 0)] ∧ LG = L) (n := 0) ⟨⟨rfl, rfl, rfl, trivial⟩, rfl⟩ ?_
  rintro _ σ L ⟨hs, rfl⟩
  refine Cd.has hs ?_
  clear hs
  refine Cd.seq ?_
  refine Cd.seq ?_
  refine Cd.region ?_
  refine Ol.p mvi ?_
  refine Ol.p mvs ?_
  refine Ol.p (lens sl_L_L_api_Target) ?_
  refine Ol.p lsi ?_
  refine Ol.nil ?_
  refine Cd.cond rfl (fun h => absurd h (by decide)) (fun _ => ?_)
  refine Cd.exit (id := 16) ?_
  refine Cd.seq ?_
  refine Cd.region ?_
  refine Ol.p asb ?_
  refine Ol.nil ?_
  exact Cd.ret ⟨.bool true, ret1 rfl rfl, [], Keep.nil, rfl, rfl⟩
theorem kit_flatMachines_nil {w : World} : Ct Tryz.prog 100 #[.slice none 0 0] w (Is (.bool true)) := by
  refine Ct.mk Tryz.func100 rfl rfl ?_
  refine Cd.seq ?_
  refine Cd.region ?_
  refine Ol.p asb ?_
  refine Ol.nil ?_
  refine Cd.seq ?_
  refine Cd.seq ?_
  refine Cd.region ?_
  refine Ol.p asi ?_
  refine Ol.nil ?_
  refine Cd.block ?_
  refine Cd.loop (fun m σ L => Has σ [(0, .slice none 0 0), (3, .int .i64 0)] ∧ [] = L) (n := 0) ⟨⟨rfl, rfl, trivial⟩, rfl⟩ ?_
  rintro _ σ L ⟨hs, rfl⟩
  refine Cd.has hs ?_
  clear hs
  refine Cd.seq ?_
  refine Cd.seq ?_
  refine Cd.region ?_
  refine Ol.p mvi ?_
  refine Ol.p mvs ?_
  refine Ol.p (lens sl_L_L_api_Machine) ?_
  refine Ol.p lsi ?_
  refine Ol.nil ?_
  refine Cd.cond rfl (fun h => absurd h (by decide)) (fun _ => ?_)
  refine Cd.exit (id := 0) ?_
  refine Cd.seq ?_
  refine Cd.region ?_
  refine Ol.p mvs ?_
  refine Ol.p (lens sl_L_L_api_Machine) ?_
  refine Ol.x (mks (n := 0) (c := 0) sl_L_L_api_Machine zr_L_api_Machine) ?_
  rintro _ _ ⟨gm, rfl, rfl⟩
  refine Ol.p ass ?_
  refine Ol.nil ?_
  obtain ⟨VG, hVG⟩ : ∃ V, V = Value.slice (some ⟨gm, 0, none⟩) 0 0 := ⟨_, rfl⟩
  rw [← hVG]
  obtain ⟨LG, hLG⟩ : ∃ LG : List Res, LG = [row VG 157 1 0 ((madeCells (Value.slice none 0 0).cells (0 * 1)).toList.take (0 * 1))] := ⟨_, rfl⟩
  rw [← hLG]
  refine Cd.seq ?_
  refine Cd.seq ?_
  refine Cd.region ?_
  refine Ol.p asi ?_
  refine Ol.nil ?_
  refine Cd.block ?_
  refine Cd.loop (fun m σ L => Has σ [(0, .slice none 0 0), (5, VG), (6, .int .i64 0)] ∧ LG = L) (n := 0) ⟨⟨rfl, rfl, rfl, trivial⟩, rfl⟩ ?_
  rintro _ σ L ⟨hs, rfl⟩
  refine Cd.has hs ?_
  clear hs
  refine Cd.seq ?_
  refine Cd.seq ?_
  refine Cd.region ?_
  refine Ol.p mvi ?_
  refine Ol.p mvs ?_
  refine Ol.p (lens sl_L_L_api_Machine) ?_
  refine Ol.p lsi ?_
  refine Ol.nil ?_
  refine Cd.cond rfl (fun h => absurd h (by decide)) (fun _ => ?_)
  refine Cd.exit (id := 4) ?_
  refine Cd.seq ?_
  refine Cd.seq ?_
  refine Cd.region ?_
  refine Ol.p asi ?_
  refine Ol.nil ?_
  refine Cd.block ?_
  refine Cd.loop (fun m σ L => Has σ [(0, .slice none 0 0), (5, VG), (9, .int .i64 0)] ∧ LG = L) (n := 0) ⟨⟨rfl, rfl, rfl, trivial⟩, rfl⟩ ?_
  rintro _ σ L ⟨hs, rfl⟩
  refine Cd.has hs ?_
  clear hs
  refine Cd.seq ?_
  refine Cd.seq ?_
  refine Cd.region ?_
  refine Ol.p mvi ?_
  refine Ol.p mvs ?_
  refine Ol.p (lens sl_L_L_api_Machine) ?_
  refine Ol.p lsi ?_
  refine Ol.nil ?_
  refine Cd.cond rfl (fun h => absurd h (by decide)) (fun _ => ?_)
  refine Cd.exit (id := 8) ?_
  refine Cd.seq ?_
  refine Cd.seq ?_
  refine Cd.region ?_
  refine Ol.p asi ?_
  refine Ol.nil ?_
  refine Cd.block ?_
  refine Cd.loop (fun m σ L => Has σ [(0, .slice none 0 0), (5, VG), (11, .int .i64 0)] ∧ LG = L) (n := 0) ⟨⟨rfl, rfl, rfl, trivial⟩, rfl⟩ ?_
  rintro _ σ L ⟨hs, rfl⟩
  refine Cd.has hs ?_
  clear hs
  refine Cd.seq ?_
  refine Cd.seq ?_
  refine Cd.region ?_
  refine Ol.p mvi ?_
  refine Ol.p mvs ?_
  refine Ol.p (lens sl_L_L_api_Machine) ?_
  refine Ol.p lsi ?_
  refine Ol.nil ?_
  refine Cd.cond rfl (fun h => absurd h (by decide)) (fun _ => ?_)
  refine Cd.exit (id := 12) ?_
  refine Cd.seq ?_
  refine Cd.seq ?_
  refine Cd.region ?_
  refine Ol.p asi ?_
  refine Ol.nil ?_
  refine Cd.block ?_
  refine Cd.loop (fun m σ L => Has σ [(0, .slice none 0 0), (5, VG), (14, .int .i64 0)] ∧ LG = L) (n := 0) ⟨⟨rfl, rfl, rfl, trivial⟩, rfl⟩ ?_
  rintro _ σ L ⟨hs, rfl⟩
  refine Cd.has hs ?_
  clear hs
  refine Cd.seq ?_
  refine Cd.seq ?_
  refine Cd.region ?_
  refine Ol.p mvi ?_
  refine Ol.p mvs ?_
  refine Ol.p (lens sl_L_L_api_Machine) ?_
  refine Ol.p lsi ?_
  refine Ol.nil ?_
  refine Cd.cond rfl (fun h => absurd h (by decide)) (fun _ => ?_)
  refine Cd.exit (id := 16) ?_
  refine Cd.seq ?_
  refine Cd.region ?_
  refine Ol.p asb ?_
  refine Ol.nil ?_
  exact Cd.ret ⟨.bool true, ret1 rfl rfl, [], Keep.nil, rfl, rfl⟩
theorem kit_flatLocs_nil {w : World} : Ct Tryz.prog 101 #[.slice none 0 0] w (Is (.bool true)) := by
  refine Ct.mk Tryz.func101 rfl rfl ?_
  refine Cd.seq ?_
  refine Cd.region ?_
  refine Ol.p asb ?_
  refine Ol.nil ?_
  refine Cd.seq ?_
  refine Cd.seq ?_
  refine Cd.region ?_
  refine Ol.p asi ?_
  refine Ol.nil ?_
  refine Cd.block ?_
  refine Cd.loop (fun m σ L => Has σ [(0, .slice none 0 0), (3, .int .i64 0)] ∧ [] = L) (n := 0) ⟨⟨rfl, rfl, trivial⟩, rfl⟩ ?_
  rintro _ σ L ⟨hs, rfl⟩
  refine Cd.has hs ?_
  clear hs
  refine Cd.seq ?_
  refine Cd.seq ?_
  refine Cd.region ?_
  refine Ol.p mvi ?_
  refine Ol.p mvs ?_
  refine Ol.p (lens sl_L_L_api_Loc) ?_
  refine Ol.p lsi ?_
  refine Ol.nil ?_
  refine Cd.cond rfl (fun h => absurd h (by decide)) (fun _ => ?_)
  refine Cd.exit (id := 0) ?_
  refine Cd.seq ?_
  refine Cd.region ?_
  refine Ol.p mvs ?_
  refine Ol.p (lens sl_L_L_api_Loc) ?_
  refine Ol.x (mks (n := 0) (c := 0) sl_L_L_api_Loc zr_L_api_Loc) ?_
  rintro _ _ ⟨gm, rfl, rfl⟩
  refine Ol.p ass ?_
  refine Ol.nil ?_
  obtain ⟨VG, hVG⟩ : ∃ V, V = Value.slice (some ⟨gm, 0, none⟩) 0 0 := ⟨_, rfl⟩
  rw [← hVG]
  obtain ⟨LG, hLG⟩ : ∃ LG : List Res, LG = [row VG 162 1 0 ((madeCells (Value.slice none 0 0).cells (0 * 1)).toList.take (0 * 1))] := ⟨_, rfl⟩
  rw [← hLG]
  refine Cd.seq ?_
  refine Cd.seq ?_
  refine Cd.region ?_
  refine Ol.p asi ?_
  refine Ol.nil ?_
  refine Cd.block ?_
  refine Cd.loop (fun m σ L => Has σ [(0, .slice none 0 0), (5, VG), (6, .int .i64 0)] ∧ LG = L) (n := 0) ⟨⟨rfl, rfl, rfl, trivial⟩, rfl⟩ ?_
  rintro _ σ L ⟨hs, rfl⟩
  refine Cd.has hs ?_
  clear hs
  refine Cd.seq ?_
  refine Cd.seq ?_
  refine Cd.region ?_
  refine Ol.p mvi ?_
  refine Ol.p mvs ?_
  refine Ol.p (lens sl_L_L_api_Loc) ?_
  refine Ol.p lsi ?_
  refine Ol.nil ?_
  refine Cd.cond rfl (fun h => absurd h (by decide)) (fun _ => ?_)
  refine Cd.exit (id := 4) ?_
  refine Cd.seq ?_
  refine Cd.seq ?_
  refine Cd.region ?_
  refine Ol.p asi ?_
  refine Ol.nil ?_
  refine Cd.block ?_
  refine Cd.loop (fun m σ L => Has σ [(0, .slice none 0 0), (5, VG), (9, .int .i64 0)] ∧ LG = L) (n := 0) ⟨⟨rfl, rfl, rfl, trivial⟩, rfl⟩ ?_
  rintro _ σ L ⟨hs, rfl⟩
  refine Cd.has hs ?_
  clear hs
  refine Cd.seq ?_
  refine Cd.seq ?_
  refine Cd.region ?_
  refine Ol.p mvi ?_
  refine Ol.p mvs ?_
  refine Ol.p (lens sl_L_L_api_Loc) ?_
  refine Ol.p lsi ?_
  refine Ol.nil ?_
  refine Cd.cond rfl (fun h => absurd h (by decide)) (fun _ => ?_)
  refine Cd.exit (id := 8) ?_
  refine Cd.seq ?_
  refine Cd.seq ?_
  refine Cd.region ?_
  refine Ol.p asi ?_
  refine Ol.nil ?_
  refine Cd.block ?_
  refine Cd.loop (fun m σ L => Has σ [(0, .slice none 0 0), (5, VG), (11, .int .i64 0)] ∧ LG = L) (n := 0) ⟨⟨rfl, rfl, rfl, trivial⟩, rfl⟩ ?_
  rintro _ σ L ⟨hs, rfl⟩
  refine Cd.has hs ?_
  clear hs
  refine Cd.seq ?_
  refine Cd.seq ?_
  refine Cd.region ?_
  refine Ol.p mvi ?_
  refine Ol.p mvs ?_
  refine Ol.p (lens sl_L_L_api_Loc) ?_
  refine Ol.p lsi ?_
  refine Ol.nil ?_
  refine Cd.cond rfl (fun h => absurd h (by decide)) (fun _ => ?_)
  refine Cd.exit (id := 12) ?_
  refine Cd.seq ?_
  refine Cd.seq ?_
  refine Cd.region ?_
  refine Ol.p asi ?_
  refine Ol.nil ?_
  refine Cd.block ?_
  refine Cd.loop (fun m σ L => Has σ [(0, .slice none 0 0), (5, VG), (14, .int .i64 0)] ∧ LG = L) (n := 0) ⟨⟨rfl, rfl, rfl, trivial⟩, rfl⟩ ?_
  rintro _ σ L ⟨hs, rfl⟩
  refine Cd.has hs ?_
  clear hs
  refine Cd.seq ?_
  refine Cd.seq ?_
  refine Cd.region ?_
  refine Ol.p mvi ?_
  refine Ol.p mvs ?_
  refine Ol.p (lens sl_L_L_api_Loc) ?_
  refine Ol.p lsi ?_
  refine Ol.nil ?_
  refine Cd.cond rfl (fun h => absurd h (by decide)) (fun _ => ?_)
  refine Cd.exit (id := 16) ?_
  refine Cd.seq ?_
  refine Cd.region ?_
  refine Ol.p asb ?_
  refine Ol.nil ?_
  exact Cd.ret ⟨.bool true, ret1 rfl rfl, [], Keep.nil, rfl, rfl⟩
theorem kit_flatFacts_nil {w : World} : Ct Tryz.prog 102 #[.slice none 0 0] w (Is (.bool true)) := by
  refine Ct.mk Tryz.func102 rfl rfl ?_
  refine Cd.seq ?_
  refine Cd.region ?_
  refine Ol.p asb ?_
  refine Ol.nil ?_
  refine Cd.seq ?_
  refine Cd.seq ?_
  refine Cd.region ?_
  refine Ol.p asi ?_
  refine Ol.nil ?_
  refine Cd.block ?_
  refine Cd.loop (fun m σ L => Has σ [(0, .slice none 0 0), (3, .int .i64 0)] ∧ [] = L) (n := 0) ⟨⟨rfl, rfl, trivial⟩, rfl⟩ ?_
  rintro _ σ L ⟨hs, rfl⟩
  refine Cd.has hs ?_
  clear hs
  refine Cd.seq ?_
  refine Cd.seq ?_
  refine Cd.region ?_
  refine Ol.p mvi ?_
  refine Ol.p mvs ?_
  refine Ol.p (lens sl_L_L_api_Fact) ?_
  refine Ol.p lsi ?_
  refine Ol.nil ?_
  refine Cd.cond rfl (fun h => absurd h (by decide)) (fun _ => ?_)
  refine Cd.exit (id := 0) ?_
  refine Cd.seq ?_
  refine Cd.region ?_
  refine Ol.p mvs ?_
  refine Ol.p (lens sl_L_L_api_Fact) ?_
  refine Ol.x (mks (n := 0) (c := 0) sl_L_L_api_Fact zr_L_api_Fact) ?_
  rintro _ _ ⟨gm, rfl, rfl⟩
  refine Ol.p ass ?_
  refine Ol.nil ?_
  obtain ⟨VG, hVG⟩ : ∃ V, V = Value.slice (some ⟨gm, 0, none⟩) 0 0 := ⟨_, rfl⟩
  rw [← hVG]
  obtain ⟨LG, hLG⟩ : ∃ LG : List Res, LG = [row VG 166 1 0 ((madeCells (Value.slice none 0 0).cells (0 * 1)).toList.take (0 * 1))] := ⟨_, rfl⟩
  rw [← hLG]
  refine Cd.seq ?_
  refine Cd.seq ?_
  refine Cd.region ?_
  refine Ol.p asi ?_
  refine Ol.nil ?_
  refine Cd.block ?_
  refine Cd.loop (fun m σ L => Has σ [(0, .slice none 0 0), (5, VG), (6, .int .i64 0)] ∧ LG = L) (n := 0) ⟨⟨rfl, rfl, rfl, trivial⟩, rfl⟩ ?_
  rintro _ σ L ⟨hs, rfl⟩
  refine Cd.has hs ?_
  clear hs
  refine Cd.seq ?_
  refine Cd.seq ?_
  refine Cd.region ?_
  refine Ol.p mvi ?_
  refine Ol.p mvs ?_
  refine Ol.p (lens sl_L_L_api_Fact) ?_
  refine Ol.p lsi ?_
  refine Ol.nil ?_
  refine Cd.cond rfl (fun h => absurd h (by decide)) (fun _ => ?_)
  refine Cd.exit (id := 4) ?_
  refine Cd.seq ?_
  refine Cd.seq ?_
  refine Cd.region ?_
  refine Ol.p asi ?_
  refine Ol.nil ?_
  refine Cd.block ?_
  refine Cd.loop (fun m σ L => Has σ [(0, .slice none 0 0), (5, VG), (9, .int .i64 0)] ∧ LG = L) (n := 0) ⟨⟨rfl, rfl, rfl, trivial⟩, rfl⟩ ?_
  rintro _ σ L ⟨hs, rfl⟩
  refine Cd.has hs ?_
  clear hs
  refine Cd.seq ?_
  refine Cd.seq ?_
  refine Cd.region ?_
  refine Ol.p mvi ?_
  refine Ol.p mvs ?_
  refine Ol.p (lens sl_L_L_api_Fact) ?_
  refine Ol.p lsi ?_
  refine Ol.nil ?_
  refine Cd.cond rfl (fun h => absurd h (by decide)) (fun _ => ?_)
  refine Cd.exit (id := 8) ?_
  refine Cd.seq ?_
  refine Cd.seq ?_
  refine Cd.region ?_
  refine Ol.p asi ?_
  refine Ol.nil ?_
  refine Cd.block ?_
  refine Cd.loop (fun m σ L => Has σ [(0, .slice none 0 0), (5, VG), (11, .int .i64 0)] ∧ LG = L) (n := 0) ⟨⟨rfl, rfl, rfl, trivial⟩, rfl⟩ ?_
  rintro _ σ L ⟨hs, rfl⟩
  refine Cd.has hs ?_
  clear hs
  refine Cd.seq ?_
  refine Cd.seq ?_
  refine Cd.region ?_
  refine Ol.p mvi ?_
  refine Ol.p mvs ?_
  refine Ol.p (lens sl_L_L_api_Fact) ?_
  refine Ol.p lsi ?_
  refine Ol.nil ?_
  refine Cd.cond rfl (fun h => absurd h (by decide)) (fun _ => ?_)
  refine Cd.exit (id := 12) ?_
  refine Cd.seq ?_
  refine Cd.seq ?_
  refine Cd.region ?_
  refine Ol.p asi ?_
  refine Ol.nil ?_
  refine Cd.block ?_
  refine Cd.loop (fun m σ L => Has σ [(0, .slice none 0 0), (5, VG), (14, .int .i64 0)] ∧ LG = L) (n := 0) ⟨⟨rfl, rfl, rfl, trivial⟩, rfl⟩ ?_
  rintro _ σ L ⟨hs, rfl⟩
  refine Cd.has hs ?_
  clear hs
  refine Cd.seq ?_
  refine Cd.seq ?_
  refine Cd.region ?_
  refine Ol.p mvi ?_
  refine Ol.p mvs ?_
  refine Ol.p (lens sl_L_L_api_Fact) ?_
  refine Ol.p lsi ?_
  refine Ol.nil ?_
  refine Cd.cond rfl (fun h => absurd h (by decide)) (fun _ => ?_)
  refine Cd.exit (id := 16) ?_
  refine Cd.seq ?_
  refine Cd.region ?_
  refine Ol.p asb ?_
  refine Ol.nil ?_
  exact Cd.ret ⟨.bool true, ret1 rfl rfl, [], Keep.nil, rfl, rfl⟩
theorem kit_flatEdges_nil {w : World} : Ct Tryz.prog 103 #[.slice none 0 0] w (Is (.bool true)) := by
  refine Ct.mk Tryz.func103 rfl rfl ?_
  refine Cd.seq ?_
  refine Cd.region ?_
  refine Ol.p asb ?_
  refine Ol.nil ?_
  refine Cd.seq ?_
  refine Cd.seq ?_
  refine Cd.region ?_
  refine Ol.p asi ?_
  refine Ol.nil ?_
  refine Cd.block ?_
  refine Cd.loop (fun m σ L => Has σ [(0, .slice none 0 0), (3, .int .i64 0)] ∧ [] = L) (n := 0) ⟨⟨rfl, rfl, trivial⟩, rfl⟩ ?_
  rintro _ σ L ⟨hs, rfl⟩
  refine Cd.has hs ?_
  clear hs
  refine Cd.seq ?_
  refine Cd.seq ?_
  refine Cd.region ?_
  refine Ol.p mvi ?_
  refine Ol.p mvs ?_
  refine Ol.p (lens sl_L_L_api_Edge) ?_
  refine Ol.p lsi ?_
  refine Ol.nil ?_
  refine Cd.cond rfl (fun h => absurd h (by decide)) (fun _ => ?_)
  refine Cd.exit (id := 0) ?_
  refine Cd.seq ?_
  refine Cd.region ?_
  refine Ol.p mvs ?_
  refine Ol.p (lens sl_L_L_api_Edge) ?_
  refine Ol.x (mks (n := 0) (c := 0) sl_L_L_api_Edge zr_L_api_Edge) ?_
  rintro _ _ ⟨gm, rfl, rfl⟩
  refine Ol.p ass ?_
  refine Ol.nil ?_
  obtain ⟨VG, hVG⟩ : ∃ V, V = Value.slice (some ⟨gm, 0, none⟩) 0 0 := ⟨_, rfl⟩
  rw [← hVG]
  obtain ⟨LG, hLG⟩ : ∃ LG : List Res, LG = [row VG 32 1 0 ((madeCells (Value.slice none 0 0).cells (0 * 1)).toList.take (0 * 1))] := ⟨_, rfl⟩
  rw [← hLG]
  refine Cd.seq ?_
  refine Cd.seq ?_
  refine Cd.region ?_
  refine Ol.p asi ?_
  refine Ol.nil ?_
  refine Cd.block ?_
  refine Cd.loop (fun m σ L => Has σ [(0, .slice none 0 0), (5, VG), (6, .int .i64 0)] ∧ LG = L) (n := 0) ⟨⟨rfl, rfl, rfl, trivial⟩, rfl⟩ ?_
  rintro _ σ L ⟨hs, rfl⟩
  refine Cd.has hs ?_
  clear hs
  refine Cd.seq ?_
  refine Cd.seq ?_
  refine Cd.region ?_
  refine Ol.p mvi ?_
  refine Ol.p mvs ?_
  refine Ol.p (lens sl_L_L_api_Edge) ?_
  refine Ol.p lsi ?_
  refine Ol.nil ?_
  refine Cd.cond rfl (fun h => absurd h (by decide)) (fun _ => ?_)
  refine Cd.exit (id := 4) ?_
  refine Cd.seq ?_
  refine Cd.seq ?_
  refine Cd.region ?_
  refine Ol.p asi ?_
  refine Ol.nil ?_
  refine Cd.block ?_
  refine Cd.loop (fun m σ L => Has σ [(0, .slice none 0 0), (5, VG), (9, .int .i64 0)] ∧ LG = L) (n := 0) ⟨⟨rfl, rfl, rfl, trivial⟩, rfl⟩ ?_
  rintro _ σ L ⟨hs, rfl⟩
  refine Cd.has hs ?_
  clear hs
  refine Cd.seq ?_
  refine Cd.seq ?_
  refine Cd.region ?_
  refine Ol.p mvi ?_
  refine Ol.p mvs ?_
  refine Ol.p (lens sl_L_L_api_Edge) ?_
  refine Ol.p lsi ?_
  refine Ol.nil ?_
  refine Cd.cond rfl (fun h => absurd h (by decide)) (fun _ => ?_)
  refine Cd.exit (id := 8) ?_
  refine Cd.seq ?_
  refine Cd.seq ?_
  refine Cd.region ?_
  refine Ol.p asi ?_
  refine Ol.nil ?_
  refine Cd.block ?_
  refine Cd.loop (fun m σ L => Has σ [(0, .slice none 0 0), (5, VG), (11, .int .i64 0)] ∧ LG = L) (n := 0) ⟨⟨rfl, rfl, rfl, trivial⟩, rfl⟩ ?_
  rintro _ σ L ⟨hs, rfl⟩
  refine Cd.has hs ?_
  clear hs
  refine Cd.seq ?_
  refine Cd.seq ?_
  refine Cd.region ?_
  refine Ol.p mvi ?_
  refine Ol.p mvs ?_
  refine Ol.p (lens sl_L_L_api_Edge) ?_
  refine Ol.p lsi ?_
  refine Ol.nil ?_
  refine Cd.cond rfl (fun h => absurd h (by decide)) (fun _ => ?_)
  refine Cd.exit (id := 12) ?_
  refine Cd.seq ?_
  refine Cd.seq ?_
  refine Cd.region ?_
  refine Ol.p asi ?_
  refine Ol.nil ?_
  refine Cd.block ?_
  refine Cd.loop (fun m σ L => Has σ [(0, .slice none 0 0), (5, VG), (14, .int .i64 0)] ∧ LG = L) (n := 0) ⟨⟨rfl, rfl, rfl, trivial⟩, rfl⟩ ?_
  rintro _ σ L ⟨hs, rfl⟩
  refine Cd.has hs ?_
  clear hs
  refine Cd.seq ?_
  refine Cd.seq ?_
  refine Cd.region ?_
  refine Ol.p mvi ?_
  refine Ol.p mvs ?_
  refine Ol.p (lens sl_L_L_api_Edge) ?_
  refine Ol.p lsi ?_
  refine Ol.nil ?_
  refine Cd.cond rfl (fun h => absurd h (by decide)) (fun _ => ?_)
  refine Cd.exit (id := 16) ?_
  refine Cd.seq ?_
  refine Cd.region ?_
  refine Ol.p asb ?_
  refine Ol.nil ?_
  exact Cd.ret ⟨.bool true, ret1 rfl rfl, [], Keep.nil, rfl, rfl⟩
theorem kit_flatTiles_nil {w : World} : Ct Tryz.prog 104 #[.slice none 0 0] w (Is (.bool true)) := by
  refine Ct.mk Tryz.func104 rfl rfl ?_
  refine Cd.seq ?_
  refine Cd.region ?_
  refine Ol.p asb ?_
  refine Ol.nil ?_
  refine Cd.seq ?_
  refine Cd.seq ?_
  refine Cd.region ?_
  refine Ol.p asi ?_
  refine Ol.nil ?_
  refine Cd.block ?_
  refine Cd.loop (fun m σ L => Has σ [(0, .slice none 0 0), (3, .int .i64 0)] ∧ [] = L) (n := 0) ⟨⟨rfl, rfl, trivial⟩, rfl⟩ ?_
  rintro _ σ L ⟨hs, rfl⟩
  refine Cd.has hs ?_
  clear hs
  refine Cd.seq ?_
  refine Cd.seq ?_
  refine Cd.region ?_
  refine Ol.p mvi ?_
  refine Ol.p mvs ?_
  refine Ol.p (lens sl_L_L_api_Tile) ?_
  refine Ol.p lsi ?_
  refine Ol.nil ?_
  refine Cd.cond rfl (fun h => absurd h (by decide)) (fun _ => ?_)
  refine Cd.exit (id := 0) ?_
  refine Cd.seq ?_
  refine Cd.region ?_
  refine Ol.p mvs ?_
  refine Ol.p (lens sl_L_L_api_Tile) ?_
  refine Ol.x (mks (n := 0) (c := 0) sl_L_L_api_Tile zr_L_api_Tile) ?_
  rintro _ _ ⟨gm, rfl, rfl⟩
  refine Ol.p ass ?_
  refine Ol.nil ?_
  obtain ⟨VG, hVG⟩ : ∃ V, V = Value.slice (some ⟨gm, 0, none⟩) 0 0 := ⟨_, rfl⟩
  rw [← hVG]
  obtain ⟨LG, hLG⟩ : ∃ LG : List Res, LG = [row VG 171 1 0 ((madeCells (Value.slice none 0 0).cells (0 * 1)).toList.take (0 * 1))] := ⟨_, rfl⟩
  rw [← hLG]
  refine Cd.seq ?_
  refine Cd.seq ?_
  refine Cd.region ?_
  refine Ol.p asi ?_
  refine Ol.nil ?_
  refine Cd.block ?_
  refine Cd.loop (fun m σ L => Has σ [(0, .slice none 0 0), (5, VG), (6, .int .i64 0)] ∧ LG = L) (n := 0) ⟨⟨rfl, rfl, rfl, trivial⟩, rfl⟩ ?_
  rintro _ σ L ⟨hs, rfl⟩
  refine Cd.has hs ?_
  clear hs
  refine Cd.seq ?_
  refine Cd.seq ?_
  refine Cd.region ?_
  refine Ol.p mvi ?_
  refine Ol.p mvs ?_
  refine Ol.p (lens sl_L_L_api_Tile) ?_
  refine Ol.p lsi ?_
  refine Ol.nil ?_
  refine Cd.cond rfl (fun h => absurd h (by decide)) (fun _ => ?_)
  refine Cd.exit (id := 4) ?_
  refine Cd.seq ?_
  refine Cd.seq ?_
  refine Cd.region ?_
  refine Ol.p asi ?_
  refine Ol.nil ?_
  refine Cd.block ?_
  refine Cd.loop (fun m σ L => Has σ [(0, .slice none 0 0), (5, VG), (9, .int .i64 0)] ∧ LG = L) (n := 0) ⟨⟨rfl, rfl, rfl, trivial⟩, rfl⟩ ?_
  rintro _ σ L ⟨hs, rfl⟩
  refine Cd.has hs ?_
  clear hs
  refine Cd.seq ?_
  refine Cd.seq ?_
  refine Cd.region ?_
  refine Ol.p mvi ?_
  refine Ol.p mvs ?_
  refine Ol.p (lens sl_L_L_api_Tile) ?_
  refine Ol.p lsi ?_
  refine Ol.nil ?_
  refine Cd.cond rfl (fun h => absurd h (by decide)) (fun _ => ?_)
  refine Cd.exit (id := 8) ?_
  refine Cd.seq ?_
  refine Cd.seq ?_
  refine Cd.region ?_
  refine Ol.p asi ?_
  refine Ol.nil ?_
  refine Cd.block ?_
  refine Cd.loop (fun m σ L => Has σ [(0, .slice none 0 0), (5, VG), (11, .int .i64 0)] ∧ LG = L) (n := 0) ⟨⟨rfl, rfl, rfl, trivial⟩, rfl⟩ ?_
  rintro _ σ L ⟨hs, rfl⟩
  refine Cd.has hs ?_
  clear hs
  refine Cd.seq ?_
  refine Cd.seq ?_
  refine Cd.region ?_
  refine Ol.p mvi ?_
  refine Ol.p mvs ?_
  refine Ol.p (lens sl_L_L_api_Tile) ?_
  refine Ol.p lsi ?_
  refine Ol.nil ?_
  refine Cd.cond rfl (fun h => absurd h (by decide)) (fun _ => ?_)
  refine Cd.exit (id := 12) ?_
  refine Cd.seq ?_
  refine Cd.seq ?_
  refine Cd.region ?_
  refine Ol.p asi ?_
  refine Ol.nil ?_
  refine Cd.block ?_
  refine Cd.loop (fun m σ L => Has σ [(0, .slice none 0 0), (5, VG), (14, .int .i64 0)] ∧ LG = L) (n := 0) ⟨⟨rfl, rfl, rfl, trivial⟩, rfl⟩ ?_
  rintro _ σ L ⟨hs, rfl⟩
  refine Cd.has hs ?_
  clear hs
  refine Cd.seq ?_
  refine Cd.seq ?_
  refine Cd.region ?_
  refine Ol.p mvi ?_
  refine Ol.p mvs ?_
  refine Ol.p (lens sl_L_L_api_Tile) ?_
  refine Ol.p lsi ?_
  refine Ol.nil ?_
  refine Cd.cond rfl (fun h => absurd h (by decide)) (fun _ => ?_)
  refine Cd.exit (id := 16) ?_
  refine Cd.seq ?_
  refine Cd.region ?_
  refine Ol.p asb ?_
  refine Ol.nil ?_
  exact Cd.ret ⟨.bool true, ret1 rfl rfl, [], Keep.nil, rfl, rfl⟩
theorem kit_flatCalls_nil {w : World} : Ct Tryz.prog 105 #[.slice none 0 0] w (Is (.bool true)) := by
  refine Ct.mk Tryz.func105 rfl rfl ?_
  refine Cd.seq ?_
  refine Cd.region ?_
  refine Ol.p asb ?_
  refine Ol.nil ?_
  refine Cd.seq ?_
  refine Cd.seq ?_
  refine Cd.region ?_
  refine Ol.p asi ?_
  refine Ol.nil ?_
  refine Cd.block ?_
  refine Cd.loop (fun m σ L => Has σ [(0, .slice none 0 0), (3, .int .i64 0)] ∧ [] = L) (n := 0) ⟨⟨rfl, rfl, trivial⟩, rfl⟩ ?_
  rintro _ σ L ⟨hs, rfl⟩
  refine Cd.has hs ?_
  clear hs
  refine Cd.seq ?_
  refine Cd.seq ?_
  refine Cd.region ?_
  refine Ol.p mvi ?_
  refine Ol.p mvs ?_
  refine Ol.p (lens sl_L_L_api_Call) ?_
  refine Ol.p lsi ?_
  refine Ol.nil ?_
  refine Cd.cond rfl (fun h => absurd h (by decide)) (fun _ => ?_)
  refine Cd.exit (id := 0) ?_
  refine Cd.seq ?_
  refine Cd.region ?_
  refine Ol.p mvs ?_
  refine Ol.p (lens sl_L_L_api_Call) ?_
  refine Ol.x (mks (n := 0) (c := 0) sl_L_L_api_Call zr_L_api_Call) ?_
  rintro _ _ ⟨gm, rfl, rfl⟩
  refine Ol.p ass ?_
  refine Ol.nil ?_
  obtain ⟨VG, hVG⟩ : ∃ V, V = Value.slice (some ⟨gm, 0, none⟩) 0 0 := ⟨_, rfl⟩
  rw [← hVG]
  obtain ⟨LG, hLG⟩ : ∃ LG : List Res, LG = [row VG 177 1 0 ((madeCells (Value.slice none 0 0).cells (0 * 1)).toList.take (0 * 1))] := ⟨_, rfl⟩
  rw [← hLG]
  refine Cd.seq ?_
  refine Cd.seq ?_
  refine Cd.region ?_
  refine Ol.p asi ?_
  refine Ol.nil ?_
  refine Cd.block ?_
  refine Cd.loop (fun m σ L => Has σ [(0, .slice none 0 0), (5, VG), (6, .int .i64 0)] ∧ LG = L) (n := 0) ⟨⟨rfl, rfl, rfl, trivial⟩, rfl⟩ ?_
  rintro _ σ L ⟨hs, rfl⟩
  refine Cd.has hs ?_
  clear hs
  refine Cd.seq ?_
  refine Cd.seq ?_
  refine Cd.region ?_
  refine Ol.p mvi ?_
  refine Ol.p mvs ?_
  refine Ol.p (lens sl_L_L_api_Call) ?_
  refine Ol.p lsi ?_
  refine Ol.nil ?_
  refine Cd.cond rfl (fun h => absurd h (by decide)) (fun _ => ?_)
  refine Cd.exit (id := 4) ?_
  refine Cd.seq ?_
  refine Cd.seq ?_
  refine Cd.region ?_
  refine Ol.p asi ?_
  refine Ol.nil ?_
  refine Cd.block ?_
  refine Cd.loop (fun m σ L => Has σ [(0, .slice none 0 0), (5, VG), (9, .int .i64 0)] ∧ LG = L) (n := 0) ⟨⟨rfl, rfl, rfl, trivial⟩, rfl⟩ ?_
  rintro _ σ L ⟨hs, rfl⟩
  refine Cd.has hs ?_
  clear hs
  refine Cd.seq ?_
  refine Cd.seq ?_
  refine Cd.region ?_
  refine Ol.p mvi ?_
  refine Ol.p mvs ?_
  refine Ol.p (lens sl_L_L_api_Call) ?_
  refine Ol.p lsi ?_
  refine Ol.nil ?_
  refine Cd.cond rfl (fun h => absurd h (by decide)) (fun _ => ?_)
  refine Cd.exit (id := 8) ?_
  refine Cd.seq ?_
  refine Cd.seq ?_
  refine Cd.region ?_
  refine Ol.p asi ?_
  refine Ol.nil ?_
  refine Cd.block ?_
  refine Cd.loop (fun m σ L => Has σ [(0, .slice none 0 0), (5, VG), (11, .int .i64 0)] ∧ LG = L) (n := 0) ⟨⟨rfl, rfl, rfl, trivial⟩, rfl⟩ ?_
  rintro _ σ L ⟨hs, rfl⟩
  refine Cd.has hs ?_
  clear hs
  refine Cd.seq ?_
  refine Cd.seq ?_
  refine Cd.region ?_
  refine Ol.p mvi ?_
  refine Ol.p mvs ?_
  refine Ol.p (lens sl_L_L_api_Call) ?_
  refine Ol.p lsi ?_
  refine Ol.nil ?_
  refine Cd.cond rfl (fun h => absurd h (by decide)) (fun _ => ?_)
  refine Cd.exit (id := 12) ?_
  refine Cd.seq ?_
  refine Cd.seq ?_
  refine Cd.region ?_
  refine Ol.p asi ?_
  refine Ol.nil ?_
  refine Cd.block ?_
  refine Cd.loop (fun m σ L => Has σ [(0, .slice none 0 0), (5, VG), (14, .int .i64 0)] ∧ LG = L) (n := 0) ⟨⟨rfl, rfl, rfl, trivial⟩, rfl⟩ ?_
  rintro _ σ L ⟨hs, rfl⟩
  refine Cd.has hs ?_
  clear hs
  refine Cd.seq ?_
  refine Cd.seq ?_
  refine Cd.region ?_
  refine Ol.p mvi ?_
  refine Ol.p mvs ?_
  refine Ol.p (lens sl_L_L_api_Call) ?_
  refine Ol.p lsi ?_
  refine Ol.nil ?_
  refine Cd.cond rfl (fun h => absurd h (by decide)) (fun _ => ?_)
  refine Cd.exit (id := 16) ?_
  refine Cd.seq ?_
  refine Cd.region ?_
  refine Ol.p asb ?_
  refine Ol.nil ?_
  exact Cd.ret ⟨.bool true, ret1 rfl rfl, [], Keep.nil, rfl, rfl⟩
end
end Go.Proofs.YtkefmjhagmacfaaGreatDoor

/- The kit: ApartInts, walked. -/
namespace Go.Proofs.YtkefmjhagmacfaaGreatDoor
set_option linter.unusedVariables false
set_option linter.unusedSimpArgs false
open Go Go.RowKit
set_option maxRecDepth 100000
section
/-- A bag that holds lists of numbers alone. -/
def bagC (v : Value) : Array Value := #[.slice none 0 0, .slice none 0 0, v, .slice none 0 0, .slice none 0 0, .slice none 0 0, .slice none 0 0, .slice none 0 0, .slice none 0 0, .slice none 0 0, .slice none 0 0, .slice none 0 0, .slice none 0 0, .slice none 0 0, .slice none 0 0, .slice none 0 0, .slice none 0 0]
theorem hdL_succ (N : Nat) (it : Nat → Li) : hdL (N + 1) it = hdL N it ++ [.slice (it N).A (it N).n (it N).c] := by simp [hdL, List.range_succ, Li.v]
theorem kit_putInts_cm {w0 : World} {B g n c nl cl : Nat} {A Al : Option Addr} {hs : List Value} (hho : n < 50000) :
    Cm Tryz.prog 69 #[.pointer (some ⟨g, 0, none⟩), .slice Al nl cl] w0 B [blk g (.cells (bagC (.slice A n c)) 100), row (.slice A n c) 22 1 n hs] (fun v L => v = .tuple #[] ∧ ∃ A' c', L = [blk g (.cells (bagC (.slice A' (n + 1) c')) 100), row (.slice A' (n + 1) c') 22 1 (n + 1) (hs ++ [.slice Al nl cl])]) := by
  refine Cm.mk Tryz.func69 rfl rfl fun M => ?_
  refine Cd.region ?_
  refine Ol.p mvp ?_
  refine Ol.p mvp ?_
  refine Ol.p nlc ?_
  refine Ol.p (fda fd_kit_bag_2) ?_
  refine Ol.p (ld (v := .slice A n c) one_L_L_int (Rd.blk (i := 0) (k := 2) rfl rfl)) ?_
  refine Ol.p mvs ?_
  refine Ol.x (bsv [.slice Al nl cl] sl_L_L_int zr_L_int (by simp [Value.cells])) ?_
  rintro _ _ ⟨g9, rfl, rfl⟩
  refine Ol.x (apn (i := 2) (n := n) (m := 1) sl_L_L_int zr_L_int rfl (by decide) rfl (Src.row (i := 0) rfl rfl) (by intro u hu; simp at hu; subst hu; rfl) (by unfold maxLen; omega) (by omega)) ?_
  rintro _ _ ⟨A', c', rfl, rfl⟩
  refine Ol.p nlc ?_
  refine Ol.p (fda fd_kit_bag_2) ?_
  refine Ol.s (sto (i := 1) (k := 2) (v := .slice A' (n + 1) c') (.inr sz_L_L_int) rfl rfl rfl (by simp [bagC]) rfl) ?_
  refine Ol.nil ?_
  exact ⟨_, ret0 rfl, _, .sub (.cons _ (List.Sublist.refl _)), rfl, A', c', rfl⟩

theorem kit_apart_cm {w0 : World} {B g N cL : Nat} {AL : Option Addr} {it : Nat → Li} {R0 : Nat → Res} (hN : N < 50000) (h0 : ∀ k, k < N → OwnP k 0 (it k) (R0 k)) (hns : ∀ k, k < N → (it k).n < 2 ^ 39) :
    Cm Tryz.prog 70 #[.pointer (some ⟨g, 0, none⟩)] w0 B (blk g (.cells (bagC (.slice AL N cL)) 100) :: row (.slice AL N cL) 22 1 N (hdL N it) :: resL N R0) (Is (.bool true)) := by
  refine Cm.mk Tryz.func70 rfl rfl fun M => ?_
  refine Cd.seq ?_
  refine Cd.region ?_
  refine Ol.p asb ?_
  refine Ol.nil ?_
  refine Cd.seq ?_
  refine Cd.region ?_
  refine Ol.p mvp ?_
  refine Ol.p nlc ?_
  refine Ol.p (fda fd_kit_bag_0) ?_
  refine Ol.p (ld (v := .slice none 0 0) one_L_L_uint32 (Rd.blk (i := 0) (k := 0) rfl rfl)) ?_
  refine Ol.s (cl en_kit_flatLimbs (fun M w' hh => kit_flatLimbs_nil)) ?_
  refine Ol.p mvb ?_
  refine Ol.gp rfl mvp ?_
  refine Ol.gp rfl nlc ?_
  refine Ol.gp rfl (fda fd_kit_bag_1) ?_
  refine Ol.gp rfl (ld (v := .slice none 0 0) one_L_L_uint64 (Rd.blk (i := 0) (k := 1) rfl rfl)) ?_
  refine Ol.gs rfl (cl en_kit_flatWords (fun M w' hh => kit_flatWords_nil)) ?_
  refine Ol.p (pkTb rfl) ?_
  refine Ol.p mvb ?_
  refine Ol.gp rfl mvp ?_
  refine Ol.gp rfl nlc ?_
  refine Ol.gp rfl (fda fd_kit_bag_2) ?_
  refine Ol.gp rfl (ld (v := .slice AL N cL) one_L_L_int (Rd.blk (i := 0) (k := 2) rfl rfl)) ?_
  refine Ol.gx rfl (sp_callm (vs := [.slice AL N cL]) (Lin := row (.slice AL N cL) 22 1 N (hdL N it) :: resL N R0) (L2 := [blk g (.cells (bagC (.slice AL N cL)) 100)]) en_kit_flatInts (List.perm_append_comm (l₁ := [blk g (.cells (bagC (.slice AL N cL)) 100)])) (kit_flatInts_cm hN h0 hns)) ?_
  rintro _ _ ⟨_, rfl, rfl, rfl⟩
  refine Ol.p (pkTb rfl) ?_
  refine Ol.p mvb ?_
  refine Ol.gp rfl mvp ?_
  refine Ol.gp rfl nlc ?_
  refine Ol.gp rfl (fda fd_kit_bag_3) ?_
  refine Ol.gp rfl (ld (v := .slice none 0 0) one_L_L_int64 (Rd.blk (i := 0) (k := 3) rfl rfl)) ?_
  refine Ol.gs rfl (cl en_kit_flatLongs (fun M w' hh => kit_flatLongs_nil)) ?_
  refine Ol.p (pkTb rfl) ?_
  refine Ol.p mvb ?_
  refine Ol.gp rfl mvp ?_
  refine Ol.gp rfl nlc ?_
  refine Ol.gp rfl (fda fd_kit_bag_4) ?_
  refine Ol.gp rfl (ld (v := .slice none 0 0) one_L_L_string (Rd.blk (i := 0) (k := 4) rfl rfl)) ?_
  refine Ol.gs rfl (cl en_kit_flatTexts (fun M w' hh => kit_flatTexts_nil)) ?_
  refine Ol.p (pkTb rfl) ?_
  refine Ol.p mvb ?_
  refine Ol.gp rfl mvp ?_
  refine Ol.gp rfl nlc ?_
  refine Ol.gp rfl (fda fd_kit_bag_5) ?_
  refine Ol.gp rfl (ld (v := .slice none 0 0) one_L_L_uint8 (Rd.blk (i := 0) (k := 5) rfl rfl)) ?_
  refine Ol.gs rfl (cl en_kit_flatBytes (fun M w' hh => kit_flatBytes_nil)) ?_
  refine Ol.p (pkTb rfl) ?_
  refine Ol.p mvb ?_
  refine Ol.gp rfl mvp ?_
  refine Ol.gp rfl nlc ?_
  refine Ol.gp rfl (fda fd_kit_bag_6) ?_
  refine Ol.gp rfl (ld (v := .slice none 0 0) one_L_L_bool (Rd.blk (i := 0) (k := 6) rfl rfl)) ?_
  refine Ol.gs rfl (cl en_kit_flatTruths (fun M w' hh => kit_flatTruths_nil)) ?_
  refine Ol.p (pkTb rfl) ?_
  refine Ol.p mvb ?_
  refine Ol.gp rfl mvp ?_
  refine Ol.gp rfl nlc ?_
  refine Ol.gp rfl (fda fd_kit_bag_7) ?_
  refine Ol.gp rfl (ld (v := .slice none 0 0) one_L_L_api_Ins (Rd.blk (i := 0) (k := 7) rfl rfl)) ?_
  refine Ol.gs rfl (cl en_kit_flatRow (fun M w' hh => kit_flatRow_nil)) ?_
  refine Ol.p (pkTb rfl) ?_
  refine Ol.p mvb ?_
  refine Ol.gp rfl mvp ?_
  refine Ol.gp rfl nlc ?_
  refine Ol.gp rfl (fda fd_kit_bag_8) ?_
  refine Ol.gp rfl (ld (v := .slice none 0 0) one_L_L_api_Block (Rd.blk (i := 0) (k := 8) rfl rfl)) ?_
  refine Ol.gs rfl (cl en_kit_flatBlocks (fun M w' hh => kit_flatBlocks_nil)) ?_
  refine Ol.p (pkTb rfl) ?_
  refine Ol.p mvb ?_
  refine Ol.gp rfl mvp ?_
  refine Ol.gp rfl nlc ?_
  refine Ol.gp rfl (fda fd_kit_bag_9) ?_
  refine Ol.gp rfl (ld (v := .slice none 0 0) one_L_L_api_Func (Rd.blk (i := 0) (k := 9) rfl rfl)) ?_
  refine Ol.gs rfl (cl en_kit_flatFuncs (fun M w' hh => kit_flatFuncs_nil)) ?_
  refine Ol.p (pkTb rfl) ?_
  refine Ol.p mvb ?_
  refine Ol.gp rfl mvp ?_
  refine Ol.gp rfl nlc ?_
  refine Ol.gp rfl (fda fd_kit_bag_10) ?_
  refine Ol.gp rfl (ld (v := .slice none 0 0) one_L_L_api_Target (Rd.blk (i := 0) (k := 10) rfl rfl)) ?_
  refine Ol.gs rfl (cl en_kit_flatTargets (fun M w' hh => kit_flatTargets_nil)) ?_
  refine Ol.p (pkTb rfl) ?_
  refine Ol.p mvb ?_
  refine Ol.gp rfl mvp ?_
  refine Ol.gp rfl nlc ?_
  refine Ol.gp rfl (fda fd_kit_bag_11) ?_
  refine Ol.gp rfl (ld (v := .slice none 0 0) one_L_L_api_Machine (Rd.blk (i := 0) (k := 11) rfl rfl)) ?_
  refine Ol.gs rfl (cl en_kit_flatMachines (fun M w' hh => kit_flatMachines_nil)) ?_
  refine Ol.p (pkTb rfl) ?_
  refine Ol.p mvb ?_
  refine Ol.gp rfl mvp ?_
  refine Ol.gp rfl nlc ?_
  refine Ol.gp rfl (fda fd_kit_bag_12) ?_
  refine Ol.gp rfl (ld (v := .slice none 0 0) one_L_L_api_Loc (Rd.blk (i := 0) (k := 12) rfl rfl)) ?_
  refine Ol.gs rfl (cl en_kit_flatLocs (fun M w' hh => kit_flatLocs_nil)) ?_
  refine Ol.p (pkTb rfl) ?_
  refine Ol.p mvb ?_
  refine Ol.gp rfl mvp ?_
  refine Ol.gp rfl nlc ?_
  refine Ol.gp rfl (fda fd_kit_bag_13) ?_
  refine Ol.gp rfl (ld (v := .slice none 0 0) one_L_L_api_Fact (Rd.blk (i := 0) (k := 13) rfl rfl)) ?_
  refine Ol.gs rfl (cl en_kit_flatFacts (fun M w' hh => kit_flatFacts_nil)) ?_
  refine Ol.p (pkTb rfl) ?_
  refine Ol.p mvb ?_
  refine Ol.gp rfl mvp ?_
  refine Ol.gp rfl nlc ?_
  refine Ol.gp rfl (fda fd_kit_bag_14) ?_
  refine Ol.gp rfl (ld (v := .slice none 0 0) one_L_L_api_Edge (Rd.blk (i := 0) (k := 14) rfl rfl)) ?_
  refine Ol.gs rfl (cl en_kit_flatEdges (fun M w' hh => kit_flatEdges_nil)) ?_
  refine Ol.p (pkTb rfl) ?_
  refine Ol.p mvb ?_
  refine Ol.gp rfl mvp ?_
  refine Ol.gp rfl nlc ?_
  refine Ol.gp rfl (fda fd_kit_bag_15) ?_
  refine Ol.gp rfl (ld (v := .slice none 0 0) one_L_L_api_Tile (Rd.blk (i := 0) (k := 15) rfl rfl)) ?_
  refine Ol.gs rfl (cl en_kit_flatTiles (fun M w' hh => kit_flatTiles_nil)) ?_
  refine Ol.p (pkTb rfl) ?_
  refine Ol.p mvb ?_
  refine Ol.gp rfl mvp ?_
  refine Ol.gp rfl nlc ?_
  refine Ol.gp rfl (fda fd_kit_bag_16) ?_
  refine Ol.gp rfl (ld (v := .slice none 0 0) one_L_L_api_Call (Rd.blk (i := 0) (k := 16) rfl rfl)) ?_
  refine Ol.gs rfl (cl en_kit_flatCalls (fun M w' hh => kit_flatCalls_nil)) ?_
  refine Ol.p (pkTb rfl) ?_
  refine Ol.p asb ?_
  refine Ol.nil ?_
  exact Cd.ret ⟨.bool true, ret1 rfl rfl, [], Keep.nil, rfl, rfl⟩
theorem kit_ApartRes_cm {w0 : World} {B N cL : Nat} {AL : Option Addr} {it : Nat → Li} {R0 : Nat → Res} (hN : N < 50000) (h0 : ∀ k, k < N → OwnP k 0 (it k) (R0 k)) (hns : ∀ k, k < N → (it k).n < 2 ^ 39) :
    Cm Tryz.prog 29 #[.slice AL N cL] w0 B (row (.slice AL N cL) 22 1 N (hdL N it) :: resL N R0) (Is (.bool true)) := by
  refine Cm.mk Tryz.func29 rfl rfl fun M => ?_
  obtain ⟨RS, hRS⟩ : ∃ RS, RS = resL N R0 := ⟨_, rfl⟩
  rw [← hRS]
  refine Cd.seq ?_
  refine Cd.region ?_
  refine Ol.p asb ?_
  refine Ol.nil ?_
  refine Cd.nr 22 1 ?_
  refine Cd.seq ?_
  refine Cd.region ?_
  refine Ol.p (bds (cs := bagC (.slice none 0 0)) bs_kit_bag zr_kit_bag (hf := by kernel_rfl)) ?_
  refine Ol.x bxg ?_
  rintro _ _ ⟨g6, rfl, rfl⟩
  refine Ol.p asp ?_
  refine Ol.nil ?_
  refine Cd.seq ?_
  refine Cd.seq ?_
  refine Cd.region ?_
  refine Ol.p asi ?_
  refine Ol.nil ?_
  refine Cd.block ?_
  refine Cd.loop (fun m σ L => ∃ (k : Nat) (A : Option Addr) (c : Nat), m = N - k ∧ k ≤ N ∧ Has σ [(0, .slice AL N cL), (3, .pointer (some ⟨g6, 0, none⟩)), (4, .int .i64 k)] ∧ blk g6 (.cells (bagC (.slice A k c)) 100) :: row (.slice A k c) 22 1 k (hdL k it) :: row (.slice AL N cL) 22 1 N (hdL N it) :: RS = L) (n := N) ⟨0, none, 0, rfl, Nat.zero_le _, ⟨rfl, rfl, rfl, trivial⟩, rfl⟩ ?_
  rintro _ σ L ⟨k, A, c, rfl, hk, hs, rfl⟩
  refine Cd.has hs ?_
  clear hs
  refine Cd.seq ?_
  refine Cd.seq ?_
  refine Cd.region ?_
  refine Ol.p mvi ?_
  refine Ol.p mvs ?_
  refine Ol.p (lens sl_L_L_int) ?_
  refine Ol.p lsi ?_
  refine Ol.nil ?_
  refine Cd.cond rfl (fun h => ?_) (fun h => ?_)
  · have hlt : k < N := by
      have h : decide ((k : Int) < (N : Int)) = true := h
      have := of_decide_eq_true h
      omega
    have hd : (hdL N it)[k * 1]? = some (.slice (it k).A (it k).n (it k).c) := by rw [Nat.mul_one, hdL_get hlt]
    refine Cd.skip ?_
    refine Cd.seq ?_
    refine Cd.block ?_
    refine Cd.region ?_
    refine Ol.p mvp ?_
    refine Ol.p mvs ?_
    refine Ol.p mvi ?_
    refine Ol.p (ixn (ix := k) sl_L_L_int (Som.row (i := 2) rfl (by omega))) ?_
    refine Ol.p (ld (v := .slice (it k).A (it k).n (it k).c) one_L_int (Rd.row (i := 2) rfl hd)) ?_
    refine Ol.x (sp_callm (vs := [.pointer (some ⟨g6, 0, none⟩), .slice (it k).A (it k).n (it k).c]) (Lin := [blk g6 (.cells (bagC (.slice A k c)) 100), row (.slice A k c) 22 1 k (hdL k it)]) (L2 := row (.slice AL N cL) 22 1 N (hdL N it) :: RS) en_P_kit_bag_putInts (.refl _) (kit_putInts_cm (by omega))) ?_
    rintro _ _ ⟨_, rfl, rfl, A', c', rfl⟩
    refine Ol.nil ?_
    refine Cd.region ?_
    refine Ol.p mvi ?_
    refine Ol.p addi ?_
    refine Ol.p asi ?_
    refine Ol.nil ?_
    exact ⟨N - (k + 1), by omega, k + 1, A', c', rfl, by omega, ⟨rfl, rfl, rfl, trivial⟩, by rw [hdL_succ]; rfl⟩
  have hke : k = N := by
    have h : decide ((k : Int) < (N : Int)) = false := h
    have := of_decide_eq_false h
    omega
  obtain rfl : N = k := hke.symm
  refine Cd.exit (id := 0) ?_
  refine Cd.seq ?_
  refine Cd.region ?_
  refine Ol.p mvp ?_
  refine Ol.x (sp_callm (vs := [.pointer (some ⟨g6, 0, none⟩)]) (Lin := blk g6 (.cells (bagC (.slice A N c)) 100) :: row (.slice A N c) 22 1 N (hdL N it) :: resL N R0) (L2 := [row (.slice AL N cL) 22 1 N (hdL N it)]) en_P_kit_bag_apart (by rw [hRS]; exact perm_count fun _ x => by simp only [List.set_cons_succ, List.set_cons_zero, List.count_append, List.count_cons, List.count_nil, List.cons_append, List.nil_append]; omega) (kit_apart_cm hN h0 hns)) ?_
  rintro _ _ ⟨_, rfl, rfl, rfl⟩
  refine Ol.p asb ?_
  refine Ol.nil ?_
  exact Cd.ret ⟨.bool true, ret1 rfl rfl, [], Keep.nil, rfl, rfl⟩
end
end Go.Proofs.YtkefmjhagmacfaaGreatDoor

/- How great a function is: walked. -/
namespace Go.Proofs.YtkefmjhagmacfaaGreatDoor
set_option linter.unusedVariables false
open Go Go.RowKit
set_option maxRecDepth 100000

def argSum (l : List RIns) : Nat := (l.map fun i => i.args.length).sum
def bsz (b : RBlk) : Nat := 1 + b.ins.length + argSum b.ins
def blocksSz (l : List RBlk) : Nat := (l.map bsz).sum
def RFun.sz (f : RFun) : Nat := f.params.length + blocksSz f.blocks
theorem argSum_snoc {l : List RIns} {k : Nat} {i : RIns} (h : l[k]? = some i) : argSum (l.take (k + 1)) = argSum (l.take k) + i.args.length := by
  unfold argSum
  rw [take_snoc_ h, List.map_append, List.sum_append]; simp
theorem blocksSz_snoc {l : List RBlk} {k : Nat} {b : RBlk} (h : l[k]? = some b) : blocksSz (l.take (k + 1)) = blocksSz (l.take k) + bsz b := by
  unfold blocksSz
  rw [take_snoc_ h, List.map_append, List.sum_append]; simp
/-- What is counted: all, or more than the bound. -/
def Counted (n most total : Nat) : Prop := (n ≤ most → n = total) ∧ n < 2 ^ 55
theorem counted_ex {most : Nat} (hm : most < 2 ^ 40) (t : Nat) : ∃ n, Counted n most t := by
  rcases Nat.lt_or_ge most t with h | h
  · exact ⟨most + 1, fun h' => by omega, by omega⟩
  · exact ⟨t, fun _ => rfl, by omega⟩
section
set_option maxHeartbeats 1000000 in
theorem kit_BlocksOf_ct {w : World} {f : RFun} {most : Nat} (hf : FunAt w w.heap.size f) (hfit : Fit f) (hm : most < 2 ^ 40) : Ct Tryz.prog 47 #[.slice f.bA f.blocks.length f.bC, .int .i64 most] w (fun v R => ∃ n : Nat, v = .int .i64 n ∧ Counted n most (blocksSz f.blocks) ∧ R = []) := by
  have hbl := hfit.blen
  refine Ct.mk Tryz.func47 rfl rfl ?_
  refine Cd.seq ?_
  refine Cd.region ?_
  refine Ol.p asi ?_
  refine Ol.nil ?_
  refine Cd.seq ?_
  refine Cd.region ?_
  refine Ol.p asi ?_
  refine Ol.nil ?_
  refine Cd.seq ?_
  refine Cd.seq ?_
  refine Cd.region ?_
  refine Ol.p asi ?_
  refine Ol.nil ?_
  refine Cd.block ?_
  refine Cd.loop (fun m σ L => ∃ k n : Nat, m = f.blocks.length - k ∧ k ≤ f.blocks.length ∧ Has σ [(0, .slice f.bA f.blocks.length f.bC), (1, .int .i64 most), (5, .int .i64 n), (6, .int .i64 k)] ∧ L = [] ∧ Counted n most (blocksSz (f.blocks.take k))) (n := f.blocks.length) ⟨0, 0, rfl, Nat.zero_le _, ⟨rfl, rfl, rfl, rfl, trivial⟩, rfl, fun _ => rfl, by decide⟩ ?_
  rintro _ σ L ⟨k, n, rfl, hk, hs, rfl, hn⟩
  obtain ⟨hn1, hn2⟩ := hn
  refine Cd.has hs ?_
  refine Cd.seq ?_
  refine Cd.seq ?_
  cases h4 : decide ((k : Int) < (f.blocks.length : Int)) with
  | true =>
    have hlt : k < f.blocks.length := by simpa using h4
    obtain ⟨b, hb⟩ : ∃ b, f.blocks[k]? = some b := ⟨_, List.getElem?_eq_getElem hlt⟩
    have hbm : b ∈ f.blocks := List.mem_of_getElem? hb
    have hil := hfit.ilen b hbm
    have hins := hf.ins b hbm
    have hsl : Som w w.heap.size ([] : List Res) f.bA := Som.slc hf.blocks (by omega)
    have hc0 : (f.blocks.flatMap RBlk.cells)[k * 5 + 0]? = some (.slice b.iA b.ins.length b.iC) := hf.cell hb (by decide)
    refine Cd.region ?_
    refine Ol.p mvi ?_
    refine Ol.p mvs ?_
    refine Ol.p (lens sl_L_api_Block) ?_
    refine Ol.p lsi ?_
    refine Ol.p mvb ?_
    refine Ol.gp h4 mvi ?_
    refine Ol.gp h4 mvi ?_
    refine Ol.gp h4 lei ?_
    refine Ol.p (pkTb h4) ?_
    refine Ol.nil ?_
    refine Cd.cond rfl (fun h => ?_) (fun h => ?_)
    · have hle : n ≤ most := by simpa using h
      have hne := hn1 hle
      refine Cd.skip ?_
      refine Cd.mid (fun σ' L' => ∃ n' : Nat, Has σ' [(0, .slice f.bA f.blocks.length f.bC), (1, .int .i64 most), (5, .int .i64 n'), (6, .int .i64 k)] ∧ L' = [] ∧ Counted n' most (blocksSz (f.blocks.take (k + 1)))) ?_ ?_
      · refine Cd.block ?_
        refine Cd.seq ?_
        refine Cd.region ?_
        refine Ol.p mvi ?_
        refine Ol.p addi ?_
        refine Ol.p mvs ?_
        refine Ol.p mvi ?_
        refine Ol.p (ixn sl_L_api_Block hsl) ?_
        refine Ol.p (fdp fd_api_Block_0) ?_
        refine Ol.p (ld one_L_api_Ins (Rd.slc hf.blocks hc0)) ?_
        refine Ol.p (lens sl_L_api_Ins) ?_
        refine Ol.p addi ?_
        refine Ol.p asi ?_
        refine Ol.nil ?_
        refine Cd.seq ?_
        refine Cd.region ?_
        refine Ol.p asi ?_
        refine Ol.nil ?_
        refine Cd.block ?_
        refine Cd.loop (fun m σ L => ∃ j n : Nat, m = b.ins.length - j ∧ j ≤ b.ins.length ∧ Has σ [(0, .slice f.bA f.blocks.length f.bC), (1, .int .i64 most), (5, .int .i64 n), (6, .int .i64 k), (7, .int .i64 j)] ∧ L = [] ∧ (n ≤ most → n = blocksSz (f.blocks.take k) + 1 + b.ins.length + argSum (b.ins.take j)) ∧ n < 2 ^ 55 ∧ (j = 0 → n ≤ most + 1 + b.ins.length)) (n := b.ins.length) ⟨0, n + 1 + b.ins.length, rfl, Nat.zero_le _, ⟨rfl, rfl, rfl, rfl, rfl, trivial⟩, rfl, fun _ => by rw [hne]; rfl, by omega, fun _ => by omega⟩ ?_
        rintro _ σ L ⟨j, n, rfl, hj, hs, rfl, hq1, hq2, hq3⟩
        refine Cd.has hs ?_
        refine Cd.seq ?_
        refine Cd.seq ?_
        cases h8 : decide ((j : Int) < (b.ins.length : Int)) with
        | true =>
          have hjl : j < b.ins.length := by simpa using h8
          obtain ⟨i, hi⟩ : ∃ i, b.ins[j]? = some i := ⟨_, List.getElem?_eq_getElem hjl⟩
          have him : i ∈ b.ins := List.mem_of_getElem? hi
          have hal := hfit.alen b hbm i him
          have hc6 : (b.ins.flatMap RIns.cells)[j * 8 + 6]? = some (.slice i.aA i.args.length i.aC) := flat_get RIns.len _ _ _ _ hi (by decide)
          refine Cd.region ?_
          refine Ol.p mvi ?_
          refine Ol.p mvs ?_
          refine Ol.p mvi ?_
          refine Ol.p (ixn sl_L_api_Block hsl) ?_
          refine Ol.p (fdp fd_api_Block_0) ?_
          refine Ol.p (ld one_L_api_Ins (Rd.slc hf.blocks hc0)) ?_
          refine Ol.p (lens sl_L_api_Ins) ?_
          refine Ol.p lsi ?_
          refine Ol.p mvb ?_
          refine Ol.gp h8 mvi ?_
          refine Ol.gp h8 mvi ?_
          refine Ol.gp h8 lei ?_
          refine Ol.p (pkTb h8) ?_
          refine Ol.nil ?_
          refine Cd.cond rfl (fun h => ?_) (fun h => ?_)
          · have hle : n ≤ most := by simpa using h
            refine Cd.skip ?_
            refine Cd.seq ?_
            refine Cd.block ?_
            refine Cd.region ?_
            refine Ol.p mvi ?_
            refine Ol.p mvs ?_
            refine Ol.p mvi ?_
            refine Ol.p (ixn sl_L_api_Block hsl) ?_
            refine Ol.p (fdp fd_api_Block_0) ?_
            refine Ol.p (ld one_L_api_Ins (Rd.slc hf.blocks hc0)) ?_
            refine Ol.p mvi ?_
            refine Ol.p (ixn sl_L_api_Ins (Som.slc hins (by omega))) ?_
            refine Ol.p (fdp fd_api_Ins_6) ?_
            refine Ol.p (ld one_L_int (Rd.slc hins hc6)) ?_
            refine Ol.p (lens sl_L_int) ?_
            refine Ol.p addi ?_
            refine Ol.p asi ?_
            refine Ol.nil ?_
            refine Cd.region ?_
            refine Ol.p mvi ?_
            refine Ol.p addi ?_
            refine Ol.p asi ?_
            refine Ol.nil ?_
            refine ⟨b.ins.length - (j + 1), by omega, j + 1, n + i.args.length, rfl, by omega, ⟨rfl, rfl, rfl, rfl, rfl, trivial⟩, rfl, fun h' => ?_, by omega, fun h' => by omega⟩
            rw [argSum_snoc hi, hq1 hle]
            omega
          · have hgt : most < n := by
              have : ¬ (n : Int) ≤ most := by simpa using h
              omega
            refine Cd.exit (id := 2) ?_
            exact ⟨n, ⟨rfl, rfl, rfl, rfl, trivial⟩, rfl, fun h' => by omega, hq2⟩
        | false =>
          have hje : j = b.ins.length := by
            have : ¬ (j : Int) < b.ins.length := by simpa using h8
            omega
          refine Cd.region ?_
          refine Ol.p mvi ?_
          refine Ol.p mvs ?_
          refine Ol.p mvi ?_
          refine Ol.p (ixn sl_L_api_Block hsl) ?_
          refine Ol.p (fdp fd_api_Block_0) ?_
          refine Ol.p (ld one_L_api_Ins (Rd.slc hf.blocks hc0)) ?_
          refine Ol.p (lens sl_L_api_Ins) ?_
          refine Ol.p lsi ?_
          refine Ol.p mvb ?_
          refine Ol.gn h8 ?_
          refine Ol.gn h8 ?_
          refine Ol.gn h8 ?_
          refine Ol.p (pkFb h8) ?_
          refine Ol.nil ?_
          refine Cd.cond rfl (fun h => by cases h) (fun h => ?_)
          refine Cd.exit (id := 2) ?_
          refine ⟨n, ⟨rfl, rfl, rfl, rfl, trivial⟩, rfl, fun h' => ?_, hq2⟩
          rw [hq1 h', hje, List.take_length, blocksSz_snoc hb]
          unfold bsz; omega
      · rintro σ' _ ⟨n', hs', rfl, hn'⟩
        refine Cd.has hs' ?_
        refine Cd.region ?_
        refine Ol.p mvi ?_
        refine Ol.p addi ?_
        refine Ol.p asi ?_
        refine Ol.nil ?_
        exact ⟨f.blocks.length - (k + 1), by omega, k + 1, n', rfl, by omega, ⟨rfl, rfl, rfl, rfl, trivial⟩, rfl, hn'⟩
    · have hgt : most < n := by
        have : ¬ (n : Int) ≤ most := by simpa using h
        omega
      refine Cd.exit (id := 0) ?_
      refine Cd.seq ?_
      refine Cd.region ?_
      refine Ol.p mvi ?_
      refine Ol.p asi ?_
      refine Ol.nil ?_
      exact Cd.ret ⟨.int .i64 _, ret1 rfl rfl, [], .nil, n, rfl, ⟨fun h' => by omega, hn2⟩, rfl⟩
  | false =>
    have hke : k = f.blocks.length := by
      have : ¬ (k : Int) < f.blocks.length := by simpa using h4
      omega
    subst hke
    refine Cd.region ?_
    refine Ol.p mvi ?_
    refine Ol.p mvs ?_
    refine Ol.p (lens sl_L_api_Block) ?_
    refine Ol.p lsi ?_
    refine Ol.p mvb ?_
    refine Ol.gn h4 ?_
    refine Ol.gn h4 ?_
    refine Ol.gn h4 ?_
    refine Ol.p (pkFb h4) ?_
    refine Ol.nil ?_
    refine Cd.cond rfl (fun h => by cases h) (fun h => ?_)
    refine Cd.exit (id := 0) ?_
    refine Cd.seq ?_
    refine Cd.region ?_
    refine Ol.p mvi ?_
    refine Ol.p asi ?_
    refine Ol.nil ?_
    rw [List.take_length] at hn1
    exact Cd.ret ⟨.int .i64 _, ret1 rfl rfl, [], .nil, n, rfl, ⟨hn1, hn2⟩, rfl⟩
theorem kit_FuncOf_ct {w : World} {f : RFun} {most : Nat} (hf : FunAt w w.heap.size f) (hfit : Fit f) (hm : most < 2 ^ 40) : Ct Tryz.prog 7 #[f.val, .int .i64 most] w (fun v R => ∃ n : Nat, v = .int .i64 n ∧ (n ≤ most → n = f.sz) ∧ n < 2 ^ 56 ∧ R = []) := by
  have hpl := hfit.plen
  refine Ct.mk Tryz.func7 rfl rfl ?_
  refine Cd.seq ?_
  refine Cd.region ?_
  refine Ol.x bxg ?_
  rintro _ _ ⟨g2, rfl, rfl⟩
  refine Ol.p asi ?_
  refine Ol.nil ?_
  refine Cd.seq ?_
  refine Cd.draw mixed 8 (fun j => match j with | 6 => some (fun v R => ∃ n : Nat, v = .int .i64 n ∧ Counted n most (blocksSz f.blocks) ∧ R = []) | _ => none) (fun _ => []) (by kernel_rfl) (by intro j V h; split at h <;> cases h; obtain ⟨n, hn⟩ := counted_ex hm (blocksSz f.blocks); exact ⟨_, _, n, rfl, hn, rfl⟩) (fun u hu => ?_)
  refine Wk.p (fdl fd_api_Func_0) ?_
  refine Wk.p (ld one_L_int (Rd.blk (i := 0) rfl rfl)) ?_
  refine Wk.p (lens sl_L_int) ?_
  refine Wk.p (fdl fd_api_Func_1) ?_
  refine Wk.p (ld one_L_api_Block (Rd.blk (i := 0) rfl rfl)) ?_
  refine Wk.p mvi ?_
  refine Wk.x hu (sp_call en_kit_BlocksOf (fun M w' hh => kit_BlocksOf_ct (hf.now hh) hfit hm)) ?_
  rintro _ _ hu6 ⟨n, rfl, ⟨hn1, hn2⟩, rfl⟩
  refine Wk.p addi ?_
  refine Wk.nil ?_
  rw [needs_cons hu6, needs_none]
  refine Ol.p asi ?_
  refine Ol.nil ?_
  exact Cd.ret ⟨.int .i64 _, ret1 rfl rfl, [], .nil, f.params.length + n, rfl, fun h' => by rw [hn1 (by omega)]; rfl, by omega, rfl⟩
end
end Go.Proofs.YtkefmjhagmacfaaGreatDoor

/- Functions that are not great: plain laws. -/
namespace Go.Proofs.YtkefmjhagmacfaaGreatDoor
set_option linter.unusedVariables false
open Go Go.RowKit
theorem siz_arg : ∀ {l : List RIns} {i : RIns}, i ∈ l → i.args.length ≤ argSum l
  | [], _, h => by cases h
  | a :: l, i, h => by
    have e : argSum (a :: l) = a.args.length + argSum l := by simp [argSum]
    rcases List.mem_cons.1 h with rfl | h
    · omega
    · have := siz_arg h; omega
theorem siz_blk : ∀ {l : List RBlk} {b : RBlk}, b ∈ l → bsz b ≤ blocksSz l
  | [], _, h => by cases h
  | a :: l, b, h => by
    have e : blocksSz (a :: l) = bsz a + blocksSz l := by simp [blocksSz]
    rcases List.mem_cons.1 h with rfl | h
    · omega
    · have := siz_blk h; omega
theorem siz_len : ∀ l : List RBlk, l.length ≤ blocksSz l
  | [] => by simp
  | a :: l => by
    have e : blocksSz (a :: l) = bsz a + blocksSz l := by simp [blocksSz]
    have := siz_len l
    have h2 : 1 ≤ bsz a := by unfold bsz; omega
    simp only [List.length_cons]; omega
theorem siz_alen {f : RFun} {n : Nat} (h : f.sz ≤ n) : ∀ b ∈ f.blocks, ∀ i ∈ b.ins, i.args.length ≤ n := fun b hb i hi => by
  have h0 : f.params.length + blocksSz f.blocks ≤ n := h
  have := siz_blk hb
  have h3 := siz_arg hi
  unfold bsz at this; omega
theorem siz_ilen {f : RFun} {n : Nat} (h : f.sz ≤ n) : ∀ b ∈ f.blocks, b.ins.length ≤ n := fun b hb => by
  have h0 : f.params.length + blocksSz f.blocks ≤ n := h
  have := siz_blk hb
  unfold bsz at this; omega
theorem siz_blen {f : RFun} {n : Nat} (h : f.sz ≤ n) : f.blocks.length ≤ n ∧ f.params.length ≤ n := by
  have h0 : f.params.length + blocksSz f.blocks ≤ n := h
  have := siz_len f.blocks
  omega
theorem BlksIn.of_siz {w : World} {f : RFun} {n : Nat} (hf : FunAt w w.heap.size f) (h : f.sz ≤ n) (hn : n < 2 ^ 30) : BlksIn w w.heap.size f.bA f.blocks := by
  have h1 := siz_blen h
  refine ⟨hf.blocks, hf.ins, hf.args, by omega, fun b hb => ?_, fun b hb i hi => ?_⟩
  · have := siz_ilen h b hb
    omega
  · have := siz_alen h b hb i hi
    omega
theorem siz_terms {f g : RFun} (hb : g.bare = f.bare) : g.terms = f.terms := by
  have e : ∀ x : RFun, x.terms = x.bare.blocks.map RBlk.term := fun x => by
    show x.blocks.map RBlk.term = (x.blocks.map RBlk.bare).map RBlk.term
    rw [List.map_map]
    rfl
  rw [e, hb, ← e]
end Go.Proofs.YtkefmjhagmacfaaGreatDoor

/- The law 10: FlowTells, walked. -/
namespace Go.Proofs.YtkefmjhagmacfaaGreatDoor
set_option linter.unusedVariables false
set_option linter.unusedSimpArgs false
open Go Go.RowKit
set_option maxRecDepth 100000
section
theorem ed_ints {x y : Ed} : decide ([x.src, x.arm, x.to] = [y.src, y.arm, y.to]) = decide (x = y) := by
  refine decide_eq_decide.2 ⟨fun h => ?_, fun h => by rw [h]⟩
  injection h with h1 h
  injection h with h2 h
  injection h with h3 _
  cases x; cases y
  simp_all
end
theorem kit_SameInts_self {w : World} {A B : Option Addr} {c d : Nat} {a : List Int} (ha : Reads w w.heap.size 1 A a.length (ints a)) (hb : Reads w w.heap.size 1 B a.length (ints a)) (hal : a.length < 2 ^ 40) :
    Ct Tryz.prog 24 #[.slice A a.length c, .slice B a.length d] w (Is (.bool true)) := by
  have := kit_SameInts_ct (c := c) (d := d) ha hb (by omega) (by omega)
  rw [decide_eq_true rfl] at this
  exact this
section
/-- A list that is one's own, wherever it begins. -/
def PartO (l : List Int) : Value → List Res → Prop := fun v L => ∃ (A : Option Addr) (c : Nat) (R : Res), v = .slice A l.length c ∧ L = [R] ∧ (∀ k m, OwnP k 0 ⟨A, l.length, m, c⟩ R) ∧ ∀ w0 B, RdS w0 B [R] 1 A l.length (ints l)
theorem partO_in (l : List Int) : ∃ v L, PartO l v L :=
  ⟨_, _, some ⟨0, 0, none⟩, l.length, _, rfl, rfl, fun k m => .inr ⟨0, 0, (ints l).toArray, rfl, rfl, Nat.le_refl _, by simp [ints], fun j hj => by omega⟩, fun w0 B => RdS.blk (i := 0) rfl (by simp [ints]) (fun j u hu => by simpa using hu)⟩
end
section
end
end Go.Proofs.YtkefmjhagmacfaaGreatDoor

/- A region whose order is drawn, in which an operation may take what another one made, or what was there (tokens), and turn it: one walk serves every order. -/
namespace Go.Proofs.YtkefmjhagmacfaaGreatDoor
set_option linter.unusedVariables false
open Go Go.RowKit

def liveU (tk : Nat → List Nat) (E : List Nat) : List Nat := E.filter fun c => !(E.any fun k => decide (c ∈ tk k))
def WkU (C : Ctx) (all : Array Oper) (ex : Nat → Option (Value → List Res → Prop)) (nd : Nat → List Nat) (tk : Nat → List Nat) (u : Got) (L0 : List Res) : Nat → List Oper → Env → List Nat → (Env → List Nat → Prop) → Prop
  | _, [], σ, E, K => K σ E
  | k, o :: rest, σ, E, K =>
    bif wants all σ o then
      (∀ c ∈ nd k, c ∈ liveU tk E) ∧ okDst C.N o.dst = true ∧
      match ex k with
      | some V => Sp C.P C.w0 C.B o σ (needs u (nd k) L0) (Adds V (needs u ((nd k).filter fun c => !decide (c ∈ tk k)) L0)) ∧ WkU C all ex nd tk u L0 (k + 1) rest (updO σ o.dst (u k).1) (k :: E) K
      | none => ∃ v, Sd C.P C.w0 C.B o σ (needs u (nd k) L0) v ∧ WkU C all ex nd tk u L0 (k + 1) rest (updO σ o.dst v) E K
    else okDst C.N o.dst = true ∧ WkU C all ex nd tk u L0 (k + 1) rest (updO σ o.dst undef) E K
def StepU (C : Ctx) (all : Array Oper) (ex : Nat → Option (Value → List Res → Prop)) (nd : Nat → List Nat) (tk : Nat → List Nat) (u : Got) (L0 : List Res) (k : Nat) (o : Oper) (σ : Env) (E : List Nat) (v : Value) : Prop :=
  okDst C.N o.dst = true ∧
  ((wants all σ o = true ∧ (∀ c ∈ nd k, c ∈ liveU tk E) ∧ ((∃ V, ex k = some V ∧ v = (u k).1 ∧ Sp C.P C.w0 C.B o σ (needs u (nd k) L0) (Adds V (needs u ((nd k).filter fun c => !decide (c ∈ tk k)) L0))) ∨ (ex k = none ∧ Sd C.P C.w0 C.B o σ (needs u (nd k) L0) v))) ∨
   (wants all σ o = false ∧ v = undef))
/-! ### What must be so: a closed test -/
def drawOkU (ops : Array Oper) (m : Nat) (nd : Nat → List Nat) (tk : Nat → List Nat) (E0 : List Nat) : Bool :=
  let b := bef ops
  drawOk ops m (fun k => (nd k).filter fun c => Nat.blt c 1000) && Nat.ble ops.size 1000 && (E0.eraseDups.length == E0.length) && E0.all (fun c => Nat.ble 1000 c && (tk c).isEmpty) &&
  (List.range m).all fun k => ((nd k).eraseDups.length == (nd k).length) && (nd k).all (fun c => Nat.blt c 1000 || E0.contains c) &&
    (tk k).all fun c => (nd k).contains c && !(Nat.beq c k) && (List.range m).all fun j => Nat.beq j k || !(nd j).contains c || (Nat.blt j k && (b.getD k 0).testBit j)
structure OkU (ops : Array Oper) (m : Nat) (nd : Nat → List Nat) (tk : Nat → List Nat) (E0 : List Nat) : Prop where
  ok : Ok ops m (fun k => (nd k).filter fun c => Nat.blt c 1000)
  big : ops.size ≤ 1000
  e0 : E0.Nodup
  tok : ∀ c ∈ E0, 1000 ≤ c ∧ tk c = []
  nodu : ∀ k, k < m → (nd k).Nodup
  has : ∀ k, k < m → ∀ c ∈ nd k, c < 1000 ∨ c ∈ E0
  tak : ∀ k, k < m → ∀ c, c ∈ tk k → c ∈ nd k ∧ c ≠ k ∧ ∀ j, j < m → j ≠ k → c ∈ nd j → j < k ∧ Anc ops k j
/-! ### Every order -/
section
variable {C : Ctx} {l : List Oper} {m : Nat} {nd : Nat → List Nat} {tk : Nat → List Nat} {E0 : List Nat} {ex : Nat → Option (Value → List Res → Prop)} {σ : Env} {L0 : List Res} {K : Env → List Nat → Prop}
structure GoodU (C : Ctx) (l : List Oper) (m : Nat) (ex : Nat → Option (Value → List Res → Prop)) (nd : Nat → List Nat) (tk : Nat → List Nat) (E0 : List Nat) (L0 : List Res) (σ : Env) (K : Got → Env → List Nat → Prop) (u : Got) (vs : List Value) : Prop where
  len : vs.length = (l.take m).length
  step : ∀ (i : Nat) (o : Oper) (v : Value), (l.take m)[i]? = some o → vs[i]? = some v → StepU C l.toArray ex nd tk u L0 i o (envAt ((l.take m).take i) (vs.take i) σ) (exAt l.toArray ex 0 ((l.take m).take i) (vs.take i) σ E0) v
  fin : K u (envAt (l.take m) vs σ) (exAt l.toArray ex 0 (l.take m) vs σ E0)
structure MidU (C : Ctx) (l : List Oper) (m : Nat) (ex : Nat → Option (Value → List Res → Prop)) (nd : Nat → List Nat) (tk : Nat → List Nat) (E0 : List Nat) (L0 : List Res) (σ : Env) (K : Got → Env → List Nat → Prop) (listed : Array Bool) (u : Got) (Ex : List Nat) (a : Act) (w : World) : Prop where
  size : a.tmps.size = C.N
  valid : Valid ex u
  nodup : Ex.Nodup
  sub : ∀ c ∈ Ex, (c < m ∧ Ls listed c) ∨ c ∈ E0
  old : ∀ c ∈ E0, c ∈ Ex
  base : ∀ t, (∀ (j : Nat) (o : Oper), j < m → l[j]? = some o → Ls listed j → o.dst ≠ some t) → a.tmps.getD t undef = σ t
  vals : ∀ u', Valid ex u' → (∀ c ∈ Ex, u' c = u c) → ∀ vs, GoodU C l m ex nd tk E0 L0 σ K u' vs → ∀ (j : Nat) (o : Oper) (v : Value), j < m → l[j]? = some o → vs[j]? = some v → Ls listed j →
    (∀ t, o.dst = some t → a.tmps.getD t undef = v) ∧ (j ∈ Ex ↔ j ∈ exAt l.toArray ex 0 (l.take m) vs σ E0)
  heap : Hp C.w0 C.B (hid C a ++ needs u (liveU tk Ex) L0) w
end
/-! ### The walk's steps -/
section
variable {C : Ctx} {all : Array Oper} {ex : Nat → Option (Value → List Res → Prop)} {nd : Nat → List Nat} {tk : Nat → List Nat} {u : Got} {L0 : List Res} {k : Nat} {rest : List Oper} {σ : Env} {E : List Nat} {K : Env → List Nat → Prop} {op : Op} {d : Option Nat} {ty : TypeId} {pos : String} {af : Array Edge} {gd : Option (Nat × Bool)} {v : Value}
end
end Go.Proofs.YtkefmjhagmacfaaGreatDoor

/- The document's answer of layer 03: whether a variable may lack a value, walked. -/
namespace Go.Proofs.YtkefmjhagmacfaaGreatDoor
set_option linter.unusedVariables false
set_option linter.unusedSimpArgs false
open Go Go.RowKit
set_option maxRecDepth 100000

end Go.Proofs.YtkefmjhagmacfaaGreatDoor

/- The package ir: a function's variables, its size, walked. -/
namespace Go.Proofs.YtkefmjhagmacfaaGreatDoor
set_option linter.unusedVariables false
open Go Go.RowKit
set_option maxRecDepth 100000

/-- What is noted of an instruction, of a block, of a function. -/
def noteI (i : RIns) : List Int := readsL i ++ [defI i]
def noteB (b : RBlk) : List Int := b.ins.flatMap noteI ++ needsL b.term
def noteF (f : RFun) : List Int := f.params ++ f.blocks.flatMap noteB
def noS : VS := fun _ => false
def varsTo (S : VS) (k : Nat) : List Nat := (List.range' 1 k).filter S
def okF (f : RFun) : Bool := !longF f && wholeF f
def varsF (f : RFun) : List Nat := if okF f then varsTo (putsV noS (noteF f) true) 200 else []
def sizeF (f : RFun) : Nat := if okF f then (f.blocks.map fun b => b.ins.length + 1).sum else 0
end Go.Proofs.YtkefmjhagmacfaaGreatDoor

/- Picking. -/
namespace Go.Proofs.YtkefmjhagmacfaaGreatDoor
set_option linter.unusedVariables false
open Go Go.RowKit
set_option maxRecDepth 100000
end Go.Proofs.YtkefmjhagmacfaaGreatDoor

/- The law 03: its example; IrSafe, walked. -/
namespace Go.Proofs.YtkefmjhagmacfaaGreatDoor
set_option linter.unusedVariables false
open Go Go.RowKit
set_option maxRecDepth 100000

end Go.Proofs.YtkefmjhagmacfaaGreatDoor

/- Plain law: a function whose variables are renamed, one to one. -/
namespace Go.Proofs.YtkefmjhagmacfaaGreatDoor
set_option linter.unusedVariables false
open Go Go.RowKit

/-- A renaming: none stays, variables go to variables, one to one, all of them. -/
structure Rnm (r : Int → Int) (rN : Nat → Nat) : Prop where
  var : ∀ n, varB (r n) = varB n
  stay : ∀ n, varB n = false → r n = n
  inj : ∀ a b, r a = r b → a = b
  onto : ∀ n, ∃ m, r m = n
  nat : ∀ n : Nat, r (n : Int) = ((rN n : Nat) : Int)
section
variable {r : Int → Int} {rN : Nat → Nat}
def renT (r : Int → Int) (t : Tm) : Tm := { t with a := r t.a }
def renI (r : Int → Int) (i : RIns) : RIns := { i with dst := r i.dst, a := r i.a, b := r i.b, args := i.args.map r }
def renB (r : Int → Int) (b : RBlk) : RBlk := { b with ins := b.ins.map (renI r), term := renT r b.term }
def renF (r : Int → Int) (f : RFun) : RFun := { f with params := f.params.map r, blocks := f.blocks.map (renB r) }
end
/-- The renaming of the law. -/
def shiftI (k : Nat) (v : Int) : Int := if v < 1 ∨ 200 < v then v else (v - 1 + k) % 200 + 1
def shiftN (k v : Nat) : Nat := if v < 1 ∨ 200 < v then v else (v - 1 + k) % 200 + 1
end Go.Proofs.YtkefmjhagmacfaaGreatDoor

/- The package ir: the most operands, arguments; a variable renamed, walked. -/
namespace Go.Proofs.YtkefmjhagmacfaaGreatDoor
set_option linter.unusedVariables false
open Go Go.RowKit
set_option maxRecDepth 100000

def insMost (p : Nat × Nat) (i : RIns) : Nat × Nat := if i.op = 13 then (p.1, max p.2 i.args.length) else (max p.1 (readsL i).length, p.2)
def blkMost (p : Nat × Nat) (b : RBlk) : Nat × Nat := b.ins.foldl insMost (max p.1 (needsL b.term).length, p.2)
def mostF (f : RFun) : Nat × Nat := if okF f then f.blocks.foldl blkMost (0, f.params.length) else (0, 0)
end Go.Proofs.YtkefmjhagmacfaaGreatDoor

/- The document's answer of layer 03: whether a function is right; its variables; its size, walked. -/
namespace Go.Proofs.YtkefmjhagmacfaaGreatDoor
set_option linter.unusedVariables false
set_option linter.unusedSimpArgs false
open Go Go.RowKit
set_option maxRecDepth 100000

end Go.Proofs.YtkefmjhagmacfaaGreatDoor

/- The document's answer of layer 03: a function's variables, its most, its size, walked. -/
namespace Go.Proofs.YtkefmjhagmacfaaGreatDoor
set_option linter.unusedVariables false
set_option linter.unusedSimpArgs false
open Go Go.RowKit
set_option maxRecDepth 100000

end Go.Proofs.YtkefmjhagmacfaaGreatDoor

/- The law 03: IrTells, walked. -/
namespace Go.Proofs.YtkefmjhagmacfaaGreatDoor
set_option linter.unusedVariables false
open Go Go.RowKit
set_option maxRecDepth 100000

end Go.Proofs.YtkefmjhagmacfaaGreatDoor

/- Functions written out by hand: where they lie, that they are fit. -/
namespace Go.Proofs.YtkefmjhagmacfaaGreatDoor
set_option linter.unusedVariables false
open Go Go.RowKit
set_option maxRecDepth 100000
def I1 (v : Int) : RIns := ⟨1, v, 0, 0, 0, 0, none, 0, [], 0⟩
def IRn (n : Int) : Prop := -9223372036854775808 ≤ n ∧ n ≤ 9223372036854775807
/-- A block of constants. -/
def OKB (b : RBlk) : Prop := (∀ n ∈ [b.term.kind, b.term.a, b.term.t0, b.term.t1], IRn n) ∧ b.ins.length < 2 ^ 50 ∧ b.ins.length ≤ b.iC ∧ ∀ i ∈ b.ins, ∃ v, i = I1 v ∧ IRn v
def TB0 (n : Nat) : Tm := ⟨2, 1 + (n : Int).tmod 3, 1, 1 + (IntKind.i64.wrap ((n : Int).tdiv 9)).tmod 3⟩
def TB1 (n : Nat) : Tm := ⟨1 + (n : Int).tmod 4, (n : Int).tmod 3, (n : Int).tmod 5 - 1, (IntKind.i64.wrap ((n : Int).tdiv 5)).tmod 4⟩
def TB2 (n : Nat) : Tm := ⟨3, (n : Int).tmod 4, 0, 0⟩
def TB3 : Tm := ⟨1, 0, 2, 0⟩
def IB0 (n : Nat) : RIns := I1 (1 + (IntKind.i64.wrap ((n : Int).tdiv 2)).tmod 2)
def IB1 (n : Nat) : RIns := I1 (1 + (n : Int).tmod 2)
def IB3 (n : Nat) : RIns := I1 ((n : Int).tmod 4)
def BK (g : Nat) (i : RIns) (t : Tm) : RBlk := ⟨some ⟨g, 0, none⟩, 1, [i], t⟩
def BN (t : Tm) : RBlk := ⟨none, 0, [], t⟩
def L03 (n g0 g1 g3 : Nat) : List RBlk := [BK g0 (IB0 n) (TB0 n), BK g1 (IB1 n) (TB1 n), BN (TB2 n), BK g3 (IB3 n) TB3]
def FL03 (gp gb : Nat) (ps : List Int) (bs : List RBlk) : RFun := ⟨some ⟨gp, 0, none⟩, ps.length, ps, some ⟨gb, 0, none⟩, 4, bs⟩
def VF (n g1 : Nat) : Value → List Res → Prop := fun v R => ∃ g g0 g3 : Nat, v = .slice (some ⟨g, 0, none⟩) 4 4 ∧ R = [row (.slice (some ⟨g, 0, none⟩) 4 4) 49 5 4 ((L03 n g0 g1 g3).flatMap RBlk.cells), row (.slice (some ⟨g0, 0, none⟩) 1 1) 110 8 1 (IB0 n).cells, row (.slice (some ⟨g3, 0, none⟩) 1 1) 110 8 1 (IB3 n).cells]
end Go.Proofs.YtkefmjhagmacfaaGreatDoor

/- A store of a struct into a row of one's own; lists of blocks that are written so. Over any program. -/
namespace Go.Proofs.YtkefmjhagmacfaaGreatDoor
set_option linter.unusedVariables false
open Go Go.RowKit
section
variable {P : Program} {w0 : World} {B : Nat} {σ : Env} {L : List Res} {d : Option Nat} {ty T : TypeId} {pos : String} {af : Array Edge} {gd : Option (Nat × Bool)} {x y : Operand}
end
end Go.Proofs.YtkefmjhagmacfaaGreatDoor

/- The law 10: FlowGraphs, walked. -/
namespace Go.Proofs.YtkefmjhagmacfaaGreatDoor
set_option linter.unusedVariables false
set_option linter.unusedSimpArgs false
open Go Go.RowKit
set_option maxRecDepth 100000
section
theorem quog {n k : Nat} (h : n < 2 ^ 60) : IntKind.i64.wrap (((n : Int)).tdiv (k : Int)) = ((n / k : Nat) : Int) := by
  have e : ((n : Int)).tdiv (k : Int) = ((n / k : Nat) : Int) := rfl
  have h2 : n / k ≤ n := Nat.div_le_self n k
  rw [e]
  obtain ⟨q, hq⟩ : ∃ q, q = n / k := ⟨_, rfl⟩
  rw [← hq] at h2 ⊢
  exact IntWalk.i64_in _ ⟨by omega, by omega⟩
def okG (t : Tm) : Prop := ∀ n ∈ [t.kind, t.a, t.t0, t.t1], -9223372036854775808 ≤ n ∧ n ≤ 9223372036854775807
theorem okG_mk {a b c d : Int} (h : (-9223372036854775808 ≤ a ∧ a ≤ 9223372036854775807) ∧ (-9223372036854775808 ≤ b ∧ b ≤ 9223372036854775807) ∧ (-9223372036854775808 ≤ c ∧ c ≤ 9223372036854775807) ∧ (-9223372036854775808 ≤ d ∧ d ≤ 9223372036854775807)) : okG ⟨a, b, c, d⟩ := by
  intro x hx
  simp only [List.mem_cons, List.not_mem_nil, or_false] at hx
  rcases hx with rfl | rfl | rfl | rfl
  · exact h.1
  · exact h.2.1
  · exact h.2.2.1
  · exact h.2.2.2
/-- A function of bare blocks. -/
def GF (A : Option Addr) (c : Nat) (tl : List Tm) : RFun := ⟨none, 0, [], A, c, tl.map BN⟩
theorem GF_fit {A : Option Addr} {c : Nat} {tl : List Tm} (hok : ∀ t ∈ tl, okG t) (hc : tl.length ≤ c) (hl : tl.length < 2 ^ 40) : Fit (GF A c tl) := by
  have key : ∀ b ∈ (GF A c tl).blocks, ∃ t ∈ tl, BN t = b := fun b hb => List.mem_map.1 hb
  constructor
  · intro n hn; cases hn
  · exact Nat.two_pow_pos _
  · show (tl.map BN).length < 2 ^ 50
    rw [List.length_map]; omega
  · exact Nat.le_refl _
  · show (tl.map BN).length ≤ c
    rw [List.length_map]; exact hc
  · intro b hb; obtain ⟨t, ht, rfl⟩ := key b hb; exact Nat.two_pow_pos _
  · intro b hb; obtain ⟨t, ht, rfl⟩ := key b hb; exact Nat.le_refl _
  · intro b hb; obtain ⟨t, ht, rfl⟩ := key b hb; exact hok t ht
  · intro b hb i hi; obtain ⟨t, ht, rfl⟩ := key b hb; cases hi
  · intro b hb i hi; obtain ⟨t, ht, rfl⟩ := key b hb; cases hi
  · intro b hb i hi; obtain ⟨t, ht, rfl⟩ := key b hb; cases hi
  · intro b hb i hi; obtain ⟨t, ht, rfl⟩ := key b hb; cases hi
theorem GF_at {w : World} {B : Nat} {A : Option Addr} {c : Nat} {tl : List Tm} (h : Reads w B 5 A tl.length ((tl.map BN).flatMap RBlk.cells)) : FunAt w B (GF A c tl) := by
  have key : ∀ b ∈ (GF A c tl).blocks, ∃ t ∈ tl, BN t = b := fun b hb => List.mem_map.1 hb
  refine ⟨Reads.none_, ?_, fun b hb => ?_, fun b hb i hi => ?_⟩
  · show Reads w B 5 A (tl.map BN).length _
    rw [List.length_map]; exact h
  · obtain ⟨t, ht, rfl⟩ := key b hb; exact Reads.none_
  · obtain ⟨t, ht, rfl⟩ := key b hb; cases hi
def BR (A : Option Addr) (n c : Nat) (tl : List Tm) : Res := row (.slice A n c) 49 5 n ((tl.map BN).flatMap RBlk.cells)
end
end Go.Proofs.YtkefmjhagmacfaaGreatDoor

/- slices.Repeat of one number, walked; the rule of copy. -/
namespace Go.Proofs.YtkefmjhagmacfaaGreatDoor
set_option linter.unusedVariables false
open Go Go.RowKit
set_option maxRecDepth 100000

section
theorem and_mask {n : Nat} (h : n < 2 ^ 32) : n &&& 4294967295 = n := by
  have := Nat.and_two_pow_sub_one_eq_mod n 32
  rw [Nat.mod_eq_of_lt h] at this
  exact this
theorem bits_Mul64_one {w : World} {n : Nat} (h : n < 2 ^ 32) : Ct Tryz.prog 141 #[.int .u64 (1 : Nat), .int .u64 (n : Int)] w (Is (.tuple #[.int .u64 0, .int .u64 (n : Int)])) := by
  have e32 : n / 2 ^ 32 = 0 := Nat.div_eq_of_lt h
  have hm := and_mask h
  refine Ct.mk Tryz.func141 rfl rfl ?_
  refine Cd.seq ?_
  refine Cd.region ?_
  refine Ol.p asi ?_
  refine Ol.p asi ?_
  refine Ol.nil ?_
  refine Cd.seq ?_
  refine Cd.region ?_
  refine Ol.p mvi ?_
  refine Ol.p (andu (a := 1) (b := 4294967295)) ?_
  refine Ol.p asi ?_
  refine Ol.nil ?_
  refine Cd.seq ?_
  refine Cd.region ?_
  refine Ol.p mvi ?_
  refine Ol.p (shru (a := 1) (n := 32)) ?_
  refine Ol.p asi ?_
  refine Ol.nil ?_
  refine Cd.seq ?_
  refine Cd.region ?_
  refine Ol.p mvi ?_
  refine Ol.p (andu (a := n) (b := 4294967295)) ?_
  refine Ol.p asi ?_
  refine Ol.nil ?_
  refine Cd.seq ?_
  refine Cd.region ?_
  refine Ol.p mvi ?_
  refine Ol.p (shru (a := n) (n := 32)) ?_
  refine Ol.p asi ?_
  refine Ol.nil ?_
  rw [hm, e32]
  refine Cd.seq ?_
  refine Cd.region ?_
  refine Ol.p mvi ?_
  refine Ol.p mvi ?_
  refine Ol.p (mlu (a := 1) (b := n)) ?_
  refine Ol.p asi ?_
  refine Ol.nil ?_
  have e1 : 1 * n % 2 ^ 64 = n := by omega
  rw [e1]
  refine Cd.seq ?_
  refine Cd.region ?_
  refine Ol.p mvi ?_
  refine Ol.p mvi ?_
  refine Ol.p (mlu (a := 0) (b := n)) ?_
  refine Ol.p mvi ?_
  refine Ol.p (shru (a := n) (n := 32)) ?_
  refine Ol.p (adu (a := 0 * n % 2 ^ 64) (b := n / 2 ^ 32)) ?_
  refine Ol.p asi ?_
  refine Ol.nil ?_
  have e2 : (0 * n % 2 ^ 64 + n / 2 ^ 32) % 2 ^ 64 = 0 := by rw [e32]; simp
  rw [e2]
  refine Cd.seq ?_
  refine Cd.region ?_
  refine Ol.p mvi ?_
  refine Ol.p (andu (a := 0) (b := 4294967295)) ?_
  refine Ol.p asi ?_
  refine Ol.nil ?_
  refine Cd.seq ?_
  refine Cd.region ?_
  refine Ol.p mvi ?_
  refine Ol.p (shru (a := 0) (n := 32)) ?_
  refine Ol.p asi ?_
  refine Ol.nil ?_
  refine Cd.seq ?_
  refine Cd.region ?_
  refine Ol.p mvi ?_
  refine Ol.p mvi ?_
  refine Ol.p mvi ?_
  refine Ol.p (mlu (a := 1) (b := 0)) ?_
  refine Ol.p (adu (a := 0) (b := 0)) ?_
  refine Ol.p asi ?_
  refine Ol.nil ?_
  refine Cd.seq ?_
  refine Cd.region ?_
  refine Ol.p mvi ?_
  refine Ol.p mvi ?_
  refine Ol.p (mlu (a := 0) (b := 0)) ?_
  refine Ol.p mvi ?_
  refine Ol.p (adu (a := 0) (b := 0)) ?_
  refine Ol.p mvi ?_
  refine Ol.p (shru (a := 0) (n := 32)) ?_
  refine Ol.p (adu (a := 0) (b := 0)) ?_
  refine Ol.p asi ?_
  refine Ol.nil ?_
  refine Cd.seq ?_
  refine Cd.region ?_
  refine Ol.p mvi ?_
  refine Ol.p mvi ?_
  refine Ol.p (mlu (a := 1) (b := n)) ?_
  refine Ol.p asi ?_
  refine Ol.nil ?_
  rw [e1]
  exact Cd.ret ⟨_, ret2 rfl rfl rfl, [], .nil, rfl, rfl⟩
theorem bits_Mul_one {w : World} {n : Nat} (hn : n < 2 ^ 32) : Ct Tryz.prog 133 #[.int .u64 (1 : Nat), .int .u64 (n : Int)] w (Is (.tuple #[.int .u64 0, .int .u64 (n : Int)])) := by
  refine Ct.mk Tryz.func133 rfl rfl ?_
  refine Cd.seq ?_
  refine Cd.region ?_
  refine Ol.p asi ?_
  refine Ol.p asi ?_
  refine Ol.nil ?_
  refine Cd.seq ?_
  refine Cd.cond rfl (fun h => by cases h) (fun h => ?_)
  refine Cd.skip ?_
  refine Cd.seq ?_
  refine Cd.region ?_
  refine Ol.p mvi ?_
  refine Ol.p mvi ?_
  refine Ol.s (cl en_math_bits_Mul64 (fun M w' hh => bits_Mul64_one hn)) ?_
  refine Ol.p mvt ?_
  refine Ol.p extv ?_
  refine Ol.p extv ?_
  refine Ol.p asi ?_
  refine Ol.p asi ?_
  refine Ol.nil ?_
  refine Cd.seq ?_
  refine Cd.region ?_
  refine Ol.p mvi ?_
  refine Ol.p mvi ?_
  refine Ol.p asi ?_
  refine Ol.p asi ?_
  refine Ol.nil ?_
  exact Cd.ret ⟨_, ret2 rfl rfl rfl, [], .nil, rfl, rfl⟩
end
section
def RepV (e n : Nat) (z : Int) : Value → List Res → Prop := fun v R => ∃ g, v = .slice (some ⟨g, 0, none⟩) n n ∧ R = [blk g (.cells (Array.replicate n (.int .i64 z)) e)]
set_option maxHeartbeats 1000000 in
theorem slices_Repeat_one {w : World} {A : Option Addr} {c n : Nat} {z : Int} (hr : Reads w w.heap.size 1 A 1 [.int .i64 z]) (hn0 : 0 < n) (hn : n < 2 ^ 30) : Ct Tryz.prog 106 #[.slice A 1 c, .int .i64 n] w (RepV 3 n z) := by
  refine Ct.mk Tryz.func106 rfl rfl ?_
  refine Cd.seq ?_
  refine Cd.region ?_
  refine Ol.p ass ?_
  refine Ol.nil ?_
  refine Cd.seq ?_
  refine Cd.seq ?_
  refine Cd.region ?_
  refine Ol.p mvi ?_
  refine Ol.p lsi ?_
  refine Ol.nil ?_
  refine Cd.cond rfl (fun h => ?_) (fun h => ?_)   -- $10
  · simp at h
    omega
  refine Cd.skip ?_
  have e1 : IntKind.u64.wrap ((1 : Nat) : Int) = ((1 : Nat) : Int) := wrapu (by decide)
  have en : IntKind.u64.wrap (n : Int) = (n : Int) := wrapu (by omega)
  have en2 : IntKind.i64.wrap (n : Int) = (n : Int) := wrapi (by omega)
  refine Cd.seq ?_
  refine Cd.region ?_
  refine Ol.p mvs ?_
  refine Ol.p (lens sl_L_int) ?_
  refine Ol.p (cvx in_int in_uint e1) ?_
  refine Ol.p mvi ?_
  refine Ol.p (cvx in_int in_uint en) ?_
  refine Ol.s (cl en_math_bits_Mul (fun M w' hh => bits_Mul_one (n := n) (by omega))) ?_
  refine Ol.p mvt ?_
  refine Ol.p extv ?_
  refine Ol.p extv ?_
  refine Ol.p asi ?_
  refine Ol.p asi ?_
  refine Ol.nil ?_
  refine Cd.seq ?_
  refine Cd.seq ?_
  refine Cd.region ?_
  refine Ol.p mvi ?_
  refine Ol.p gti ?_
  refine Ol.p mvb ?_
  refine Ol.gp rfl mvi ?_
  refine Ol.gp rfl gti ?_
  refine Ol.p (pkFb rfl) ?_
  refine Ol.nil ?_
  refine Cd.cond rfl (fun h => ?_) (fun h => ?_)   -- $26
  · simp at h
    omega
  refine Cd.skip ?_
  refine Cd.seq ?_
  refine Cd.region ?_
  refine Ol.p mvi ?_
  refine Ol.p (cvx in_uint in_int en2) ?_
  refine Ol.x (mks sl_L_int zr_int) ?_
  rintro _ _ ⟨gN, rfl, rfl⟩
  refine Ol.p ass ?_
  refine Ol.nil ?_
  refine Cd.unrow fun cs hcs hcs2 => ?_
  have hcn : cs.size = n := by omega
  refine Cd.seq ?_
  refine Cd.region ?_
  refine Ol.p mvs ?_
  refine Ol.p mvs ?_
  refine Ol.s (cpb (i := 0) (off := 0) (n := n) (m := 1) (q := 1) sl_L_int rfl (Src.slc hr) (by intro u hu; simp at hu; subst hu; rfl) (by show 1 = Nat.min 1 n; exact (Nat.min_eq_left hn0).symm) (by omega)) ?_
  refine Ol.p asi ?_
  refine Ol.nil ?_
  refine Cd.seq ?_
  refine Cd.block ?_   -- 0
  refine Cd.loop (fun m σ L => ∃ (q : Nat) (cs : Array Value), m = n - q ∧ 1 ≤ q ∧ q ≤ n ∧ Has σ [(7, .slice (some ⟨gN, 0, none⟩) n n), (8, .int .i64 q)] ∧ L = [blk gN (.cells cs 3)] ∧ cs.size = n ∧ cs.toList.take q = List.replicate q (.int .i64 z)) (n := n - 1) ⟨1, _, rfl, Nat.le_refl _, hn0, ⟨rfl, rfl, trivial⟩, rfl, ?_, ?_⟩ ?_
  · simp [hcn]
    omega
  · simp
  rintro _ σ L ⟨q, cs, rfl, hq1, hqn, hs, rfl, hcn, hcp⟩
  refine Cd.has hs ?_
  refine Cd.seq ?_
  refine Cd.seq ?_
  refine Cd.region ?_
  refine Ol.p mvi ?_
  refine Ol.p mvs ?_
  refine Ol.p (lens sl_L_int) ?_
  refine Ol.p lsi ?_
  refine Ol.nil ?_
  refine Cd.cond rfl (fun h => ?_) (fun h => ?_)   -- $37
  · have hlt : q < n := by simpa using h
    obtain ⟨mn, hmn⟩ : ∃ mn, mn = Nat.min q (n - q) := ⟨_, rfl⟩
    have hmin : mn ≤ q := by rw [hmn]; exact Nat.min_le_left _ _
    have hmin2 : mn ≤ n - q := by rw [hmn]; exact Nat.min_le_right _ _
    have hmin3 : 1 ≤ mn := by
      rw [hmn]
      show 1 ≤ min q (n - q)
      omega
    have hsrc : Src w w.heap.size [blk gN (.cells cs 3)] (some ⟨gN, 0, none⟩) q 1 (List.replicate q (Value.int .i64 z)) := by
      rw [← hcp]
      refine ⟨by simp; omega, fun M w2 hh => .inr ⟨_, rfl, fun j u hu => ?_⟩⟩
      rw [List.getElem?_take] at hu
      split at hu
      · have hb : w2.heap[gN]? = some (.cells cs 3) := hh.has (blk gN (.cells cs 3)) (by simp)
        rw [add_lit_, Nat.zero_add, cell_of_row w2 gN _ cs _ _ hb]
        simpa using hu
      · cases hu
    refine Cd.skip ?_
    refine Cd.block ?_   -- 1
    refine Cd.drawT (L0 := []) mixed 9 (fun opNo => match opNo with | 7 => some (Trn (.int .i64 mn) (blk gN (.cells ((cs.toList.take (0 + q * 1) ++ (List.replicate q (Value.int .i64 z)).take (mn * 1) ++ cs.toList.drop (0 + q * 1 + mn * 1)).toArray) 3))) | 1000 => some ((fun v R => v = undef ∧ R = [blk gN (.cells cs 3)])) | _ => none) (fun opNo => match opNo with | 7 => [1000] | _ => []) (fun opNo => match opNo with | 7 => some 1000 | _ => none) [1000] (fun tokNo => match tokNo with | 1000 => [blk gN (.cells cs 3)] | _ => []) (by kernel_rfl) (.refl _) (by intro c hc; simp only [List.mem_cons, List.not_mem_nil, or_false] at hc; rcases hc with rfl <;> rfl) (by intro q V h; split at h <;> cases h; exact ⟨_, _, rfl, rfl⟩; exact ⟨_, _, rfl, rfl⟩) (fun u hu hu0 => ?_)
    refine WkT.p mvi ?_
    refine WkT.p mvs ?_
    refine WkT.p mvi ?_
    refine WkT.p (slo (l := q) sl_L_int (by omega) (by omega)) ?_
    refine WkT.p mvs ?_
    refine WkT.p mvi ?_
    refine WkT.p (slh (h := q) sl_L_int (by omega)) ?_
    refine WkT.xn (V := Trn (.int .i64 mn) (blk gN (.cells ((cs.toList.take (0 + q * 1) ++ (List.replicate q (Value.int .i64 z)).take (mn * 1) ++ cs.toList.drop (0 + q * 1 + mn * 1)).toArray) 3))) (l := [1000]) (l2 := []) hu rfl rfl rfl (by rw [needs_cons (hu0 1000 (by simp)), needs_none]; exact (det.trn (cpb (i := 0) (off := 0 + q * 1) (n := n - q) (m := q) (q := mn) sl_L_int rfl hsrc (by intro u hu; rw [List.mem_replicate] at hu; rw [hu.2]; rfl) hmn (by omega)))) ?_
    rintro _ _ hu7 ⟨rfl, rfl⟩
    refine WkT.p addi ?_
    refine WkT.nil ?_
    change Ol _ _ _ _ _ (needs u [7] _)
    rw [needs_cons hu7, needs_none]
    refine Ol.p asi ?_
    refine Ol.nil ?_
    refine ⟨n - (q + mn), by omega, q + mn, _, rfl, by omega, by omega, ⟨rfl, rfl, trivial⟩, rfl, ?_, ?_⟩
    · simp [hcn]
      omega
    · have e6 : cs.toList.take (0 + q * 1) ++ (List.replicate q (Value.int .i64 z)).take (mn * 1) = List.replicate (q + mn) (.int .i64 z) := by
        rw [show 0 + q * 1 = q by omega, hcp, Nat.mul_one, List.take_replicate, Nat.min_eq_left hmin, List.replicate_append_replicate]
      simp only [e6]
      rw [List.take_append_of_le_length (by simp)]
      simp
  have hqe : q = n := by
    have : ¬ (q : Int) < n := by simpa using h
    omega
  subst hqe
  have hfin : cs = Array.replicate q (.int .i64 z) := by
    apply Array.ext'
    rw [List.take_of_length_le (by simp; omega)] at hcp
    rw [hcp]; simp
  subst hfin
  refine Cd.exit (id := 0) ?_
  refine Cd.seq ?_
  refine Cd.region ?_
  refine Ol.p mvs ?_
  refine Ol.p ass ?_
  refine Ol.nil ?_
  exact Cd.ret ⟨.slice _ _ _, ret1 rfl rfl, _, .all, gN, rfl, rfl⟩
end
end Go.Proofs.YtkefmjhagmacfaaGreatDoor

/- The package dom: the tree, walked. -/
namespace Go.Proofs.YtkefmjhagmacfaaGreatDoor
set_option linter.unusedVariables false
open Go Go.RowKit
set_option maxRecDepth 100000

theorem uint_ltn {a : Int} {n : Nat} (h : -9223372036854775808 ≤ a ∧ a ≤ 9223372036854775807) (hn : n < 2 ^ 50) : decide (IntKind.u64.wrap a < IntKind.u64.wrap (n : Int)) = (decide (0 ≤ a) && decide (a < (n : Int))) := by
  rw [wrapU, wrapU]
  by_cases h1 : 0 ≤ a <;> by_cases h2 : a < (n : Int) <;> simp [h1, h2] <;> omega
theorem ints_get' {l : List Int} {k : Nat} {n : Int} (h : l[k]? = some n) : (ints l)[k]? = some (.int .i64 n) := by simp [ints, h]
section
def treeV (AU AP : Option Addr) (nU nP cU cP : Nat) : Value := .agg #[.slice AU nU cU, .slice AP nP cP]
set_option maxHeartbeats 1000000 in
theorem dom_meet_ct {w : World} {AU AP : Option Addr} {cU cP : Nat} {ul pl : List Int} {G : Gra} {a b : Nat} (hU : Reads w w.heap.size 1 AU ul.length (ints ul)) (hP : Reads w w.heap.size 1 AP pl.length (ints pl)) (ht : Tr G (asU ul))
    (hpl : ∀ x, G.R x → pl[x]? = some (G.pl x : Int)) (hlen : ∀ x, G.R x → x < ul.length ∧ x < pl.length) (ha : Pr (asU ul) a) (hb : Pr (asU ul) b) :
    Ct Tryz.prog 77 #[treeV AU AP ul.length pl.length cU cP, .int .i64 (a : Int), .int .i64 (b : Int)] w (fun v R => ∃ m : Nat, v = .int .i64 (m : Int) ∧ Meet (asU ul) a b m ∧ R = []) := by
  refine Ct.mk Tryz.func77 rfl rfl ?_
  refine Cd.seq ?_
  refine Cd.region ?_
  refine Ol.x bxg ?_
  rintro _ _ ⟨g3, rfl, rfl⟩
  refine Ol.p asi ?_
  refine Ol.nil ?_
  refine Cd.seq ?_
  refine Cd.block ?_   -- 0
  obtain ⟨L0, hL0⟩ : ∃ L0, L0 = [blk g3 (.cells #[.slice AU ul.length cU, .slice AP pl.length cP] 103)] := ⟨_, rfl⟩
  refine Cd.loop (fun m σ L => ∃ a' b' : Nat, m = G.pl a' + G.pl b' ∧ Pr (asU ul) a' ∧ Pr (asU ul) b' ∧ (∀ m, Meet (asU ul) a' b' m → Meet (asU ul) a b m) ∧ Has σ [(1, .int .i64 (a' : Int)), (2, .int .i64 (b' : Int)), (3, .pointer (some ⟨g3, 0, none⟩))] ∧ L0 = L) (n := G.pl a + G.pl b) ⟨a, b, rfl, ha, hb, fun _ h => h, ⟨rfl, rfl, rfl, trivial⟩, hL0⟩ ?_
  rintro _ σ L ⟨a', b', rfl, ha', hb', hm, hs, rfl⟩
  have hRa := ha'.reached ht
  have hRb := hb'.reached ht
  refine Cd.has hs ?_
  refine Cd.seq ?_
  refine Cd.seq ?_
  refine Cd.region ?_
  refine Ol.p mvi ?_
  refine Ol.p mvi ?_
  refine Ol.p nei ?_
  refine Ol.nil ?_
  refine Cd.cond rfl (fun h => ?_) (fun h => ?_)   -- $9
  · have hne : a' ≠ b' := by
      simp only [Bool.not_eq_true', decide_eq_false_iff_not] at h
      intro e
      exact h (by rw [e])
    have hpa := ints_get' (hpl a' hRa)
    have hpb := ints_get' (hpl b' hRb)
    have hua := ints_get' (asU_get (hlen a' hRa).1)
    have hub := ints_get' (asU_get (hlen b' hRb).1)
    have hla := hlen a' hRa
    have hlb := hlen b' hRb
    subst hL0
    refine Cd.skip ?_
    refine Cd.block ?_   -- 1
    refine Cd.seq ?_
    refine Cd.draw mixed 11 (fun _ => none) (fun _ => []) (by kernel_rfl) (fun _ _ h => by cases h) (fun u hu => ?_)
    refine Wk.p (fdl fd_dom_tree_1) ?_
    refine Wk.p (ld one_L_int (Rd.blk (i := 0) rfl rfl)) ?_
    refine Wk.p mvi ?_
    refine Wk.p (ixn1 (ix := a') sl_L_int (Som.slc hP (by omega))) ?_
    refine Wk.p (ld one_int (Rd.slc hP hpa)) ?_
    refine Wk.p (fdl fd_dom_tree_1) ?_
    refine Wk.p (ld one_L_int (Rd.blk (i := 0) rfl rfl)) ?_
    refine Wk.p mvi ?_
    refine Wk.p (ixn1 (ix := b') sl_L_int (Som.slc hP (by omega))) ?_
    refine Wk.p (ld one_int (Rd.slc hP hpb)) ?_
    refine Wk.p gti ?_
    refine Wk.nil ?_
    refine Ol.nil ?_
    refine Cd.cond rfl (fun h2 => ?_) (fun h2 => ?_)   -- $20
    · have hlt : G.pl b' < G.pl a' := by simp only [decide_eq_true_eq] at h2; omega
      have h0 : 0 ≤ asU ul a' := by
        rcases ha' with e | e
        · rw [e, G.pl0] at hlt; omega
        · exact e
      have hup := ht.up a' h0
      have hcast : ((asU ul a').toNat : Int) = asU ul a' := by omega
      refine Cd.region ?_
      refine Ol.p (fdl fd_dom_tree_0) ?_
      refine Ol.p (ld one_L_int (Rd.blk (i := 0) rfl rfl)) ?_
      refine Ol.p mvi ?_
      refine Ol.p (ixn1 (ix := a') sl_L_int (Som.slc hU (by omega))) ?_
      refine Ol.p (ld one_int (Rd.slc hU hua)) ?_
      refine Ol.p asi ?_
      refine Ol.nil ?_
      rw [← hcast]
      exact ⟨_, by have := hup.2.2.1; show G.pl (asU ul a').toNat + G.pl b' < _; omega, (asU ul a').toNat, b', rfl, hup.2.2.2, hb', fun m h => hm m (Meet.left ht h0 hlt h), ⟨rfl, rfl, rfl, trivial⟩, rfl⟩
    have hlt : G.pl a' < G.pl b' := by
      simp only [decide_eq_false_iff_not] at h2
      have : G.pl a' ≠ G.pl b' := fun e => hne (G.inj a' b' hRa hRb e)
      omega
    have h0 : 0 ≤ asU ul b' := by
      rcases hb' with e | e
      · rw [e, G.pl0] at hlt; omega
      · exact e
    have hup := ht.up b' h0
    have hcast : ((asU ul b').toNat : Int) = asU ul b' := by omega
    refine Cd.region ?_
    refine Ol.p (fdl fd_dom_tree_0) ?_
    refine Ol.p (ld one_L_int (Rd.blk (i := 0) rfl rfl)) ?_
    refine Ol.p mvi ?_
    refine Ol.p (ixn1 (ix := b') sl_L_int (Som.slc hU (by omega))) ?_
    refine Ol.p (ld one_int (Rd.slc hU hub)) ?_
    refine Ol.p asi ?_
    refine Ol.nil ?_
    rw [← hcast]
    exact ⟨_, by have := hup.2.2.1; show G.pl a' + G.pl (asU ul b').toNat < _; omega, a', (asU ul b').toNat, rfl, ha', hup.2.2.2, fun m h => hm m (Meet.right ht h0 hlt h), ⟨rfl, rfl, rfl, trivial⟩, rfl⟩
  have he : a' = b' := by
    simp only [Bool.not_eq_false', decide_eq_true_eq] at h
    omega
  subst he
  refine Cd.exit (id := 0) ?_
  refine Cd.seq ?_
  refine Cd.region ?_
  refine Ol.p mvi ?_
  refine Ol.p asi ?_
  refine Ol.nil ?_
  exact Cd.ret ⟨.int .i64 _, ret1 rfl rfl, [], .nil, a', rfl, hm _ Meet.same, rfl⟩
theorem dom_reached_ct {w : World} {AU AP : Option Addr} {cU cP nU : Nat} {pl : List Int} {b : Int} (hP : Reads w w.heap.size 1 AP pl.length (ints pl)) (hl : pl.length < 2 ^ 50) (hb : -9223372036854775808 ≤ b ∧ b ≤ 9223372036854775807) :
    Ct Tryz.prog 76 #[treeV AU AP nU pl.length cU cP, .int .i64 b] w (Is (.bool (inP pl b))) := by
  refine Ct.mk Tryz.func76 rfl rfl ?_
  refine Cd.seq ?_
  refine Cd.region ?_
  refine Ol.x bxg ?_
  rintro _ _ ⟨g2, rfl, rfl⟩
  refine Ol.p asb ?_
  refine Ol.nil ?_
  have hu := uint_ltn hb hl
  refine Cd.seq ?_
  cases h7 : (decide (0 ≤ b) && decide (b < (pl.length : Int))) with
  | true =>
    simp only [Bool.and_eq_true, decide_eq_true_eq] at h7
    have hlt : b.toNat < pl.length := by omega
    have hcast : ((b.toNat : Nat) : Int) = b := by omega
    have hv : pl[b.toNat]? = some (pl.getD b.toNat (-1)) := by rw [List.getD_eq_getElem?_getD, List.getElem?_eq_getElem hlt]; rfl
    have hT : decide (IntKind.u64.wrap b < IntKind.u64.wrap (pl.length : Int)) = true := by rw [hu]; simp [h7]
    refine Cd.region ?_
    refine Ol.p mvi ?_
    refine Ol.p (cvw in_int in_uint) ?_
    refine Ol.p (fdl fd_dom_tree_1) ?_
    refine Ol.p (ld one_L_int (Rd.blk (i := 0) rfl rfl)) ?_
    refine Ol.p (lens sl_L_int) ?_
    refine Ol.p (cvw in_int in_uint) ?_
    refine Ol.p lsi ?_
    refine Ol.p mvb ?_
    refine Ol.gp hT (fdl fd_dom_tree_1) ?_
    refine Ol.gp hT (ld one_L_int (Rd.blk (i := 0) rfl rfl)) ?_
    refine Ol.gp hT mvi ?_
    refine Ol.gp hT (ixn1 (ix := b.toNat) sl_L_int (Som.slc hP (by omega)) (hy := congrArg (Value.int .i64) hcast.symm)) ?_
    refine Ol.gp hT (ld one_int (Rd.slc hP (ints_get' hv))) ?_
    refine Ol.gp hT gei ?_
    refine Ol.p (pkTb hT) ?_
    refine Ol.p asb ?_
    refine Ol.nil ?_
    refine Cd.ret ⟨.bool _, ret1 rfl rfl, [], .nil, ?_, rfl⟩
    unfold inP
    simp [h7]
  | false =>
    have hF : decide (IntKind.u64.wrap b < IntKind.u64.wrap (pl.length : Int)) = false := by rw [hu]; exact h7
    refine Cd.region ?_
    refine Ol.p mvi ?_
    refine Ol.p (cvw in_int in_uint) ?_
    refine Ol.p (fdl fd_dom_tree_1) ?_
    refine Ol.p (ld one_L_int (Rd.blk (i := 0) rfl rfl)) ?_
    refine Ol.p (lens sl_L_int) ?_
    refine Ol.p (cvw in_int in_uint) ?_
    refine Ol.p lsi ?_
    refine Ol.p mvb ?_
    refine Ol.gn hF ?_
    refine Ol.gn hF ?_
    refine Ol.gn hF ?_
    refine Ol.gn hF ?_
    refine Ol.gn hF ?_
    refine Ol.gn hF ?_
    refine Ol.p (pkFb hF) ?_
    refine Ol.p asb ?_
    refine Ol.nil ?_
    refine Cd.ret ⟨.bool _, ret1 rfl rfl, [], .nil, ?_, rfl⟩
    unfold inP
    rw [h7]; rfl
end
theorem ints_rep (n : Nat) (z : Int) : (ints (List.replicate n z)).toArray = Array.replicate n (.int .i64 z) := by
  apply Array.ext'
  simp [ints]
theorem ints_size (l : List Int) : ((ints l).toArray).size = l.length := by simp [ints]
theorem ints_set (l : List Int) (k : Nat) (n : Int) : ((ints l).toArray).setIfInBounds k (.int .i64 n) = (ints (l.set k n)).toArray := by
  apply Array.ext'
  simp [ints, List.map_set]
section
/-- The tree of a function: of one that is closed each block's immediate dominator, and its place. -/
def TreeV (ts : List Tm) : Value → List Res → Prop := fun v R => (closed ts = false ∧ v = treeV none none 0 0 0 0 ∧ R = []) ∨
  (closed ts = true ∧ DomU ts (domL ts) ∧ ∃ gU gP, v = treeV (some ⟨gU, 0, none⟩) (some ⟨gP, 0, none⟩) ts.length ts.length ts.length ts.length ∧ R = [blk gP (.cells (ints (plL ts)).toArray 3), blk gU (.cells (ints (domL ts)).toArray 3)])
def preI (ts : List Tm) (x : Nat) : List Int := (preF ts x).map fun n : Nat => (n : Int)
/-- What is held while the tree is made. -/
def madeR (f : RFun) (n gI gP gU gO g2 g1 : Nat) (csO U : Array Value) (H : Heads) (xs : Nat → List Int) : List Res :=
  blk gI (.cells (rngV n (headV H xs)) 22) :: blk gP (.cells (ints (plL f.terms)).toArray 3) :: blk gU (.cells U 3) :: blk gO (.cells csO 3) :: blk g2 (.cells #[.slice (some ⟨gU, 0, none⟩) n n, .slice (some ⟨gP, 0, none⟩) n n] 103) :: blk g1 (.cells f.cells.toArray 25) :: rowsP n 3 H xs
theorem headV_set {n b : Nat} {H : Heads} {xs xs' : Nat → List Int} {A : Option Addr} {c : Nat} (hx : ∀ x, x ≠ b → xs x = xs' x) : (rngV n (headV H xs)).setIfInBounds b (.slice A (xs' b).length c) = rngV n (headV (fun x => if x = b then (A, c) else H x) xs') := by
  rw [rngV_set]
  refine rngV_congr fun x _ => ?_
  unfold headV
  by_cases e : x = b
  · subst e; simp
  · simp [e, hx x e]
theorem rowsP_set {n e b : Nat} {H : Heads} {xs xs' : Nat → List Int} {A : Option Addr} {c : Nat} (hb : b < n) (hx : ∀ x, x ≠ b → xs x = xs' x) : (rowsP n e (fun x => if x = b then (A, c) else H x) xs').Perm (row (.slice A (xs' b).length c) e 1 (xs' b).length (ints (xs' b)) :: restP n e b H xs) := by
  have h1 := rowsP_perm (n := n) (e := e) (b := b) (H := fun x => if x = b then (A, c) else H x) (xs := xs') hb
  have h2 : restP n e b (fun x => if x = b then (A, c) else H x) xs' = restP n e b H xs := restP_congr fun x hne => ⟨by simp [hne], (hx x hne).symm⟩
  rw [h2] at h1
  simpa using h1
def FixU (ts : List Tm) (ul : List Int) : Prop := ∀ b ∈ orderF ts, b ≠ 0 → Eva (asU ul) (preF ts b) (asU ul b)
set_option maxHeartbeats 8000000 in
theorem dom_made_ct {w : World} {f : RFun} (hf : FunAt w w.heap.size f) (hfit : Fit f) : Ct Tryz.prog 71 #[f.val] w (TreeV f.terms) := by
  have hbl := hfit.blen
  have htl : f.terms.length = f.blocks.length := by simp [RFun.terms]
  refine Ct.mk Tryz.func71 rfl rfl ?_
  refine Cd.seq ?_
  refine Cd.region ?_
  refine Ol.x bxg ?_
  rintro _ _ ⟨g1, rfl, rfl⟩
  refine Ol.x (alc zr_dom_tree) ?_
  rintro _ _ ⟨g2, rfl, rfl⟩
  refine Ol.nil ?_
  refine Cd.seq ?_
  refine Cd.seq ?_
  refine Cd.region ?_
  refine Ol.p (ldw ag_api_Func (i := 1) rfl rfl) ?_
  refine Ol.s (cl en_flow_Closed (fun M w' hh => flow_Closed_ct (hf.now hh) hfit)) ?_
  refine Ol.p noti ?_
  refine Ol.nil ?_
  refine Cd.cond rfl (fun h => ?_) (fun h => ?_)   -- $17
  · have hcl : closed f.terms = false := by simpa using h
    refine Cd.seq ?_
    refine Cd.region ?_
    refine Ol.p (ldw ag_dom_tree (i := 0) rfl rfl) ?_
    refine Ol.s (stw (vs := #[.slice none 0 0, .slice none 0 0]) sz_dom_tree rfl (by intro u hu; simp at hu; subst hu; rfl) (i := 0) rfl rfl) ?_
    refine Ol.nil ?_
    exact Cd.ret ⟨_, retc rfl ag_dom_tree rfl (i := 0) rfl rfl, [], .nil, .inl ⟨hcl, rfl, rfl⟩⟩
  have hcl : closed f.terms = true := by simpa using h
  obtain ⟨hn0, hn200⟩ := closed_le hcl
  obtain ⟨n, hn⟩ : ∃ n, n = f.terms.length := ⟨_, rfl⟩
  have hnb : f.blocks.length = n := by rw [hn, htl]
  have hon : (orderF f.terms).length ≤ n := by rw [hn]; exact order_len_le hcl
  have holt : ∀ x ∈ orderF f.terms, x < n := fun x hx => by rw [hn]; exact order_lt hcl hx
  obtain ⟨tl, hord⟩ := order_head hcl
  refine Cd.skip ?_
  refine Cd.seq ?_
  refine Cd.region ?_
  refine Ol.p (ldw ag_api_Func (i := 1) rfl rfl) ?_
  refine Ol.x (sp_call en_flow_Order (fun M w' hh => flow_Order_ct2 (hf.now hh) hfit)) ?_
  rintro _ _ ⟨_, rfl, ⟨h0, _⟩ | ⟨gO, kO, cO, csO, rfl, rfl, hOl, hOc, hOx⟩⟩; (rw [hord] at h0; simp at h0)
  refine Ol.p ass ?_
  refine Ol.nil ?_
  obtain ⟨ol, hol⟩ : ∃ ol, ol = (orderF f.terms).length := ⟨_, rfl⟩
  have hol1 : 1 ≤ ol := by rw [hol, hord]; simp
  rw [← hol] at hOc hon ⊢
  have hOget : ∀ (k b : Nat), (orderF f.terms)[k]? = some b → csO[kO + k]? = some (.int .i64 (b : Int)) := fun k b hk => hOx k _ (intsN_get hk)
  refine Cd.seq ?_
  refine Cd.draw mixed 11 (fun opNo => match opNo with | 0 => some (NewSv 3 1 1 1 [.int .i64 (-1)]) | 4 => some (RepV 3 n (-1)) | 5 => some (NewSv 3 1 1 1 [.int .i64 (-1)]) | 9 => some (RepV 3 n (-1)) | _ => none) (fun opNo => match opNo with | 4 => [0] | 9 => [5] | _ => []) (by kernel_rfl) (by intro q V h; split at h <;> cases h; exact ⟨_, _, 0, rfl, rfl⟩; exact ⟨_, _, 0, rfl, rfl⟩; exact ⟨_, _, 0, rfl, rfl⟩; exact ⟨_, _, 0, rfl, rfl⟩) (fun u hu => ?_)
  refine Wk.x (V := NewSv 3 1 1 1 [.int .i64 (-1)]) hu (NewS.adds (bsv [.int .i64 (-1)] sl_L_int zr_int (by simp [Value.cells]))) ?_
  rintro _ _ hu0 ⟨g21, rfl, rfl⟩
  refine Wk.p (fdl fd_api_Func_1) ?_
  refine Wk.p (ld one_L_api_Block (Rd.blk (i := 2) rfl rfl)) ?_
  refine Wk.p (lens sl_L_api_Block) ?_
  refine Wk.xn (V := RepV 3 n (-1)) hu (l := [0]) rfl (by simp) (by rw [needs_cons hu0, needs_none]; exact (by rw [← hnb]; exact sp_call en_slices_Repeat_L_int_int (fun M w' hh => slices_Repeat_one (Reads.row hh (i := 0) rfl) (by omega) (by omega)))) ?_
  rintro _ _ hu4 ⟨gU, rfl, rfl⟩
  refine Wk.x (V := NewSv 3 1 1 1 [.int .i64 (-1)]) hu (NewS.adds (bsv [.int .i64 (-1)] sl_L_int zr_int (by simp [Value.cells]))) ?_
  rintro _ _ hu5 ⟨g26, rfl, rfl⟩
  refine Wk.p (fdl fd_api_Func_1) ?_
  refine Wk.p (ld one_L_api_Block (Rd.blk (i := 2) rfl rfl)) ?_
  refine Wk.p (lens sl_L_api_Block) ?_
  refine Wk.xn (V := RepV 3 n (-1)) hu (l := [5]) rfl (by simp) (by rw [needs_cons hu5, needs_none]; exact (by rw [← hnb]; exact sp_call en_slices_Repeat_L_int_int (fun M w' hh => slices_Repeat_one (Reads.row hh (i := 0) rfl) (by omega) (by omega)))) ?_
  rintro _ _ hu9 ⟨gP, rfl, rfl⟩
  refine Wk.p (fdl fd_dom_tree_0) ?_
  refine Wk.nil ?_
  rw [needs_cons hu9, needs_cons hu5, needs_cons hu4, needs_cons hu0, needs_none]
  refine Ol.s (sto (i := 5) (k := 0) (.inr sz_L_int) rfl rfl rfl (by exact (by decide : 0 < 2)) rfl) ?_
  refine Ol.p (fdl fd_dom_tree_1) ?_
  refine Ol.s (sto (i := 5) (k := 1) (.inr sz_L_int) rfl rfl rfl (by exact (by decide : 1 < 2)) rfl) ?_
  refine Ol.keep (.sub (.cons_cons _ (.cons _ (.cons_cons _ (.cons _ (List.Sublist.refl _)))))) ?_
  refine Ol.nil ?_
  have eP : Array.replicate n (Value.int .i64 (-1)) = rngV n fun x => .int .i64 (plTo f.terms 0 x) := by
    rw [rngV_rep]
    exact rngV_congr fun i _ => by rw [plTo_zero]
  rw (occs := .pos [1]) [eP]
  obtain ⟨LR, hLR⟩ : ∃ LR, LR = [blk gU (.cells (Array.replicate n (.int .i64 (-1))) 3), blk gO (.cells csO 3), blk g2 (.cells #[.slice (some ⟨gU, 0, none⟩) n n, .slice (some ⟨gP, 0, none⟩) n n] 103), blk g1 (.cells f.cells.toArray 25)] := ⟨_, rfl⟩
  refine Cd.seq ?_
  refine Cd.seq ?_
  refine Cd.region ?_
  refine Ol.p mvs ?_
  refine Ol.p (lens sl_L_int) ?_
  refine Ol.p mvi ?_
  refine Ol.nil ?_
  refine Cd.block ?_   -- 0
  refine Cd.loop (fun m σ L => ∃ k, m = ol - k ∧ k ≤ ol ∧ Has σ [(1, .pointer (some ⟨g1, 0, none⟩)), (2, .pointer (some ⟨g2, 0, none⟩)), (3, .slice (some ⟨gO, kO, none⟩) ol cO), (33, .slice (some ⟨gO, kO, none⟩) ol cO), (34, .int .i64 ol), (35, .int .i64 k)] ∧ blk gP (.cells (rngV n fun x => .int .i64 (plTo f.terms k x)) 3) :: LR = L) (n := ol) ⟨0, rfl, Nat.zero_le _, ⟨rfl, rfl, rfl, rfl, rfl, rfl, trivial⟩, by rw [hLR]; rfl⟩ ?_
  rintro _ σ L ⟨k, rfl, hk, hs, rfl⟩
  refine Cd.has hs ?_
  refine Cd.seq ?_
  refine Cd.region ?_
  refine Ol.p lsi ?_
  refine Ol.nil ?_
  refine Cd.seq ?_
  refine Cd.cond rfl (fun h => ?_) (fun h => ?_)   -- $36
  · have hlt : k < ol := by simpa using h
    obtain ⟨b, hb⟩ : ∃ b, (orderF f.terms)[k]? = some b := ⟨_, List.getElem?_eq_getElem (by omega)⟩
    have hbn := holt b (List.mem_of_getElem? hb)
    refine Cd.skip ?_
    refine Cd.seq ?_
    refine Cd.block ?_   -- 1
    subst hLR
    refine Cd.seq ?_
    refine Cd.region ?_
    refine Ol.p mvi ?_
    refine Ol.p (ixo (ix := k) sl_L_int) ?_
    refine Ol.p (ld (v := .int .i64 (b : Int)) one_int (Rd.blk (k := kO + k * 1) (i := 2) rfl (by rw [Nat.mul_one]; exact hOget k b hb))) ?_
    refine Ol.p asi ?_
    refine Ol.p asi ?_
    refine Ol.nil ?_
    refine Cd.region ?_
    refine Ol.p (fdl fd_dom_tree_1) ?_
    refine Ol.p (ld one_L_int (Rd.blk (i := 3) rfl rfl)) ?_
    refine Ol.p mvi ?_
    refine Ol.p mvi ?_
    refine Ol.p (ixo1 (ix := b) sl_L_int) ?_
    refine Ol.s (sto (i := 0) (k := b) (.inr sz_int) rfl rfl rfl (by rw [rngV_size]; exact hbn) rfl) ?_
    refine Ol.nil ?_
    refine Cd.region ?_
    refine Ol.p addi ?_
    refine Ol.p mvi ?_
    refine Ol.nil ?_
    refine ⟨ol - (k + 1), by omega, k + 1, rfl, by omega, ⟨rfl, rfl, rfl, rfl, rfl, rfl, trivial⟩, ?_⟩
    have : (rngV n fun x => Value.int .i64 (plTo f.terms k x)).setIfInBounds b (.int .i64 (k : Int)) = rngV n fun x => .int .i64 (plTo f.terms (k + 1) x) := by
      rw [rngV_set]
      refine rngV_congr fun x _ => ?_
      rw [plTo_succ hcl hb]
      by_cases e : x = b <;> simp [e]
    rw [← this]
    rfl
  have hke : ol = k := by
    have : ¬ (k : Int) < ol := by simpa using h
    omega
  subst hke
  have ePl : (rngV n fun x => Value.int .i64 (plTo f.terms ol x)) = (ints (plL f.terms)).toArray := by
    rw [hol, hn]
    simp [rngV, plL, ints, Function.comp_def]
  rw [ePl]
  clear hk hs h eP
  subst hLR
  refine Cd.exit (id := 0) ?_
  refine Cd.seq ?_
  refine Cd.region ?_
  refine Ol.p (fdl fd_api_Func_1) ?_
  refine Ol.p (ld one_L_api_Block (Rd.blk (i := 4) rfl rfl)) ?_
  refine Ol.p (lens sl_L_api_Block) ?_
  refine Ol.x (mks (n := f.blocks.length) (c := f.blocks.length) sl_L_L_int zr_L_int) ?_
  rintro _ _ ⟨gI, rfl, rfl⟩
  refine Ol.unrow fun csI hcsI hcsI2 => ?_
  have eI : csI = rngV n (headV (fun _ => (none, 0)) (preTo f.terms 0)) := by
    have h1 : csI.toList = (madeCells (Value.slice none 0 0).cells (f.blocks.length * 1)).toList.take (f.blocks.length * 1) := by
      rw [← hcsI2]; exact (List.take_of_length_le (by simp [hcsI])).symm
    have h2 : (madeCells (Value.slice none 0 0).cells (f.blocks.length * 1)).toList.take (f.blocks.length * 1) = List.replicate n (.slice none 0 0) := by
      rw [hnb, Nat.mul_one]
      apply List.ext_getElem?
      intro i
      by_cases hi : i < n
      · have e0 : (Value.slice none 0 0).cells = #[.slice none 0 0] := rfl
        simp [madeCells, hi, e0]
        rw [Nat.mod_one]; rfl
      · simp [madeCells, hi]
    apply Array.ext'
    have h3 : headV (fun _ => (none, 0)) (preTo f.terms 0) = fun _ => Value.slice none 0 0 := by funext x; unfold headV; rw [preTo_zero]; rfl
    rw [h1, h2, h3, ← rngV_rep]
    simp
  subst eI
  refine Ol.p ass ?_
  refine Ol.nil ?_
  refine Cd.seq ?_
  refine Cd.seq ?_
  refine Cd.region ?_
  refine Ol.p (ldw ag_api_Func (i := 5) rfl rfl) ?_
  refine Ol.x (sp_call en_flow_Edges (fun M' w' hh => flow_Edges_ct (hf.now hh) hfit)) ?_
  rintro _ _ ⟨_, rfl, A51, c51, rfl, rfl⟩
  refine Ol.p (lens sl_L_api_Edge) ?_
  refine Ol.p mvi ?_
  refine Ol.nil ?_
  have hse : (someE f.terms fun _ => true) = edges f.terms := by unfold someE; rw [hcl, cond_true]; simp
  rw [hse]
  obtain ⟨E, hE⟩ : ∃ E, E = edges f.terms := ⟨_, rfl⟩
  rw [← hE]
  have hEl : E.length ≤ 400 := by rw [hE, ← hse]; exact someE_len_le _ _
  refine Cd.block ?_   -- 2
  refine Cd.nrs n 3 ?_
  have hn0' : (fun x => ([] : List Int)) = preTo f.terms 0 := by funext x; rw [preTo_zero]
  rw [hn0']
  refine Cd.loop (fun m σ L => ∃ (k : Nat) (H : Heads), m = E.length - k ∧ k ≤ E.length ∧ Has σ [(2, .pointer (some ⟨g2, 0, none⟩)), (3, .slice (some ⟨gO, kO, none⟩) ol cO), (6, .slice (some ⟨gI, 0, none⟩) f.blocks.length f.blocks.length), (51, .slice A51 E.length c51), (52, .int .i64 E.length), (53, .int .i64 k)] ∧
      row (.slice A51 E.length c51) 58 3 E.length (edV E) :: madeR f n gI gP gU gO g2 g1 csO (Array.replicate n (.int .i64 (-1))) H (preTo f.terms k) = L) (n := E.length) ⟨0, _, rfl, Nat.zero_le _, ⟨rfl, rfl, rfl, rfl, rfl, rfl, trivial⟩, rfl⟩ ?_
  rintro _ σ L ⟨k, H, rfl, hk, hs, rfl⟩
  refine Cd.has hs ?_
  refine Cd.seq ?_
  refine Cd.region ?_
  refine Ol.p lsi ?_
  refine Ol.nil ?_
  refine Cd.seq ?_
  refine Cd.cond rfl (fun h => ?_) (fun h => ?_)   -- $54
  · have hlt : k < E.length := by simpa using h
    obtain ⟨e, he⟩ : ∃ e, E[k]? = some e := ⟨_, List.getElem?_eq_getElem hlt⟩
    have heE : (edges f.terms)[k]? = some e := by rw [← hE]; exact he
    have hem : e ∈ edges f.terms := List.mem_of_getElem? heE
    obtain ⟨_, _, hcle⟩ := closed_len hcl
    have hto := hcle e hem
    obtain ⟨b, hb⟩ : ∃ b : Nat, e.to = (b : Int) := ⟨e.to.toNat, by omega⟩
    have hbn : b < n := by omega
    have hplen := preTo_len f.terms k b
    unfold madeR
    refine Cd.skip ?_
    refine Cd.seq ?_
    refine Cd.block ?_   -- 3
    refine Cd.seq ?_
    refine Cd.region ?_
    refine Ol.p (ixn (ix := k) sl_L_api_Edge (Som.row (i := 0) rfl (by omega))) ?_
    refine Ol.p (ldr ag_api_Edge (i := 0) rfl e.len (fun j u hu => edV_get he hu)) ?_
    refine Ol.x (alc zr_api_Edge) ?_
    rintro _ _ ⟨g8, rfl, rfl⟩
    refine Ol.s (stw sz_api_Edge rfl e.one (i := 0) rfl rfl) ?_
    refine Ol.nil ?_
    refine Cd.drawT (L0 := (blk g8 (.cells e.cells.toArray 58) :: row (.slice A51 E.length c51) 58 3 E.length (edV E) :: blk gI (.cells (rngV n (headV H (preTo f.terms k))) 22) :: blk gP (.cells (ints (plL f.terms)).toArray 3) :: blk gU (.cells (Array.replicate n (.int .i64 (-1))) 3) :: blk gO (.cells csO 3) :: blk g2 (.cells #[.slice (some ⟨gU, 0, none⟩) n n, .slice (some ⟨gP, 0, none⟩) n n] 103) :: blk g1 (.cells f.cells.toArray 25) :: restP n 3 b H (preTo f.terms k))) mixed 13 (fun opNo => match opNo with | 10 => some (NewSv 3 1 1 1 [.int .i64 e.src]) | 11 => some (NewL 3 1 ((preTo f.terms k b).length + 1) (ints (preTo f.terms k b) ++ [Value.int .i64 e.src])) | 1000 => some ((fun v R => v = undef ∧ R = [row (.slice (H b).1 (preTo f.terms k b).length (H b).2) 3 1 (preTo f.terms k b).length (ints (preTo f.terms k b))])) | _ => none) (fun opNo => match opNo with | 11 => [1000, 10] | _ => []) (fun opNo => match opNo with | 11 => some 1000 | _ => none) [1000] (fun tokNo => match tokNo with | 1000 => [row (.slice (H b).1 (preTo f.terms k b).length (H b).2) 3 1 (preTo f.terms k b).length (ints (preTo f.terms k b))] | _ => []) (by kernel_rfl) ((List.Perm.append_left [_, _, _, _, _, _, _, _] (rowsP_perm hbn)).trans List.perm_middle) (by intro c hc; simp only [List.mem_cons, List.not_mem_nil, or_false] at hc; rcases hc with rfl <;> rfl) (by intro q V h; split at h <;> cases h; exact ⟨_, _, 0, rfl, rfl⟩; exact ⟨_, _, none, 0, rfl, rfl⟩; exact ⟨_, _, rfl, rfl⟩) (fun u hu hu0 => ?_)
    refine WkT.p mvs ?_
    refine WkT.p (fdl fd_api_Edge_2) ?_
    refine WkT.p (ld one_int (Rd.blk (i := 0) rfl rfl)) ?_
    refine WkT.p mvs ?_
    refine WkT.p (fdl fd_api_Edge_2) ?_
    refine WkT.p (ld one_int (Rd.blk (i := 0) rfl rfl)) ?_
    refine WkT.p (ixo1 (ix := b) sl_L_L_int (hy := congrArg (Value.int .i64) hb)) ?_
    refine WkT.p (ld (v := .slice (H b).1 (preTo f.terms k b).length (H b).2) one_L_int (Rd.blk (i := 2) rfl (rngV_get hbn))) ?_
    refine WkT.p (fdl fd_api_Edge_0) ?_
    refine WkT.p (ld one_int (Rd.blk (i := 0) rfl rfl)) ?_
    refine WkT.xn (V := NewSv 3 1 1 1 [.int .i64 e.src]) (l := []) (l2 := []) hu rfl rfl rfl (by rw [needs_none]; exact (NewS.adds (bsv [.int .i64 e.src] sl_L_int zr_int (by simp [Value.cells])))) ?_
    rintro _ _ hu10 ⟨g67, rfl, rfl⟩
    refine WkT.xn (V := NewL 3 1 ((preTo f.terms k b).length + 1) (ints (preTo f.terms k b) ++ [Value.int .i64 e.src])) (l := [1000, 10]) (l2 := [10]) hu rfl rfl rfl (by rw [needs_cons (hu0 1000 (by simp)), needs_cons hu10, needs_none]; exact (Grow.adds (apn (i := 0) (m := 1) sl_L_int zr_int rfl (by decide) rfl (Src.row (i := 1) rfl rfl) (by intro u hu; simp at hu; subst hu; rfl) (by unfold maxLen; omega) (by omega)))) ?_
    rintro _ _ hu11 ⟨A68, c68, rfl, rfl⟩
    refine WkT.p (ixo1 (ix := b) sl_L_L_int (hy := congrArg (Value.int .i64) hb)) ?_
    refine WkT.nil ?_
    change Ol _ _ _ _ _ (needs u [11, 10] _)
    rw [needs_cons hu11, needs_cons hu10, needs_none]
    refine Ol.s (sto (i := 4) (k := b) (.inr sz_L_int) rfl rfl rfl (by rw [rngV_size]; exact hbn) rfl) ?_
    refine Ol.keep (.sub (.cons_cons _ (.cons _ (.cons _ (List.Sublist.refl _))))) ?_
    refine Ol.nil ?_
    have hp1 : preTo f.terms (k + 1) b = preTo f.terms k b ++ [e.src] := by rw [preTo_succ heE, if_pos hb]
    have hp2 : ∀ x, x ≠ b → preTo f.terms k x = preTo f.terms (k + 1) x := fun x hx => by rw [preTo_succ heE, if_neg (by rw [hb]; omega)]
    have hp3 : (preTo f.terms k b).length + 1 = (preTo f.terms (k + 1) b).length := by rw [hp1]; simp
    have hp4 : ints (preTo f.terms k b) ++ [Value.int .i64 e.src] = ints (preTo f.terms (k + 1) b) := by rw [hp1]; simp [ints]
    rw [hp3, hp4]
    refine Cd.keep (L' := row (.slice A51 E.length c51) 58 3 E.length (edV E) :: madeR f n gI gP gU gO g2 g1 csO (Array.replicate n (.int .i64 (-1))) (fun x => if x = b then (A68, c68) else H x) (preTo f.terms (k + 1))) ⟨[], ?_⟩ ?_
    · rw [List.append_nil]
      unfold madeR
      rw [← headV_set hp2]
      exact (List.perm_middle (l₁ := [_, _, _, _, _, _, _])).symm.trans (List.Perm.append_left [_, _, _, _, _, _, _] (rowsP_set hbn hp2).symm)
    refine Cd.region ?_
    refine Ol.p addi ?_
    refine Ol.p mvi ?_
    refine Ol.nil ?_
    exact ⟨E.length - (k + 1), by omega, k + 1, _, rfl, by omega, ⟨rfl, rfl, rfl, rfl, rfl, rfl, trivial⟩, rfl⟩
  have hke : E.length = k := by
    have : ¬ (k : Int) < E.length := by simpa using h
    omega
  subst hke
  clear hk hs h
  have hxs : preTo f.terms E.length = preI f.terms := by funext x; rw [hE]; exact preTo_all _ _
  rw [hxs, ← ints_rep]
  refine Cd.exit (id := 2) ?_
  refine Cd.keep (.sub (.cons _ (List.Sublist.refl _))) ?_
  refine Cd.seq ?_
  refine Cd.seq ?_
  refine Cd.region ?_
  refine Ol.p asb ?_
  refine Ol.nil ?_
  obtain ⟨mu, hmu⟩ : ∃ mu : List Int → Nat, mu = muU ((orderF f.terms).idxOf ·) (orderF f.terms).length := ⟨_, rfl⟩
  have hps0 : Ps (gra f.terms hcl) (preF f.terms) (asU (List.replicate n (-1))) 1 := by rw [asU_rep]; exact Ps.start (gra_pos hcl)
  refine Cd.block ?_   -- 4
  refine Cd.loop (fun m σ L => ∃ (ul : List Int) (mv : Bool), m = 2 * mu ul + mv.toNat ∧ ul.length = n ∧ Ps (gra f.terms hcl) (preF f.terms) (asU ul) 1 ∧ (mv = false → FixU f.terms ul ∧ Ps (gra f.terms hcl) (preF f.terms) (asU ul) ol) ∧ Has σ [(2, .pointer (some ⟨g2, 0, none⟩)), (3, .slice (some ⟨gO, kO, none⟩) ol cO), (6, .slice (some ⟨gI, 0, none⟩) f.blocks.length f.blocks.length), (9, .bool mv)] ∧ madeR f n gI gP gU gO g2 g1 csO (ints ul).toArray H (preI f.terms) = L) (n := 2 * mu (List.replicate n (-1)) + 1) ⟨_, true, rfl, by simp, hps0, fun h => (by cases h), ⟨rfl, rfl, rfl, rfl, trivial⟩, rfl⟩ ?_
  rintro _ σ L ⟨ul0, mv, rfl, hul0, hps1, hfix0, hs, rfl⟩
  refine Cd.has hs ?_
  refine Cd.seq ?_
  refine Cd.seq ?_
  refine Cd.region ?_
  refine Ol.p mvb ?_
  refine Ol.nil ?_
  refine Cd.cond rfl (fun h => ?_) (fun h => ?_)   -- $71
  · subst h
    refine Cd.skip ?_
    refine Cd.block ?_   -- 5
    refine Cd.seq ?_
    refine Cd.region ?_
    refine Ol.p asb ?_
    refine Ol.nil ?_
    refine Cd.seq ?_
    refine Cd.region ?_
    refine Ol.p mvs ?_
    refine Ol.p (sll (l := 1) sl_L_int (by omega)) ?_
    refine Ol.p (lens sl_L_int) ?_
    refine Ol.p mvi ?_
    refine Ol.nil ?_
    generalize hA73 : (if cO = 1 then some (⟨gO, kO, none⟩ : Addr) else (some (⟨gO, kO, none⟩ : Addr)).map (·.add (1 * 1))) = A73
    refine Cd.block ?_   -- 6
    refine Cd.loop (fun m σ L => ∃ (k : Nat) (ul : List Int) (mv : Bool), m = (ol - 1) - k ∧ k ≤ ol - 1 ∧ ul.length = n ∧ Ps (gra f.terms hcl) (preF f.terms) (asU ul) (k + 1) ∧ (mv = false → ul = ul0 ∧ ∀ b ∈ orderF f.terms, b ≠ 0 → (orderF f.terms).idxOf b < k + 1 → Eva (asU ul) (preF f.terms b) (asU ul b)) ∧ (mv = true → mu ul < mu ul0) ∧
        Has σ [(2, .pointer (some ⟨g2, 0, none⟩)), (3, .slice (some ⟨gO, kO, none⟩) ol cO), (6, .slice (some ⟨gI, 0, none⟩) f.blocks.length f.blocks.length), (9, .bool mv), (73, .slice A73 (ol - 1) (cO - 1)), (74, .int .i64 ((ol - 1 : Nat) : Int)), (75, .int .i64 k)] ∧ madeR f n gI gP gU gO g2 g1 csO (ints ul).toArray H (preI f.terms) = L) (n := ol - 1)
      ⟨0, ul0, false, rfl, Nat.zero_le _, hul0, hps1, fun _ => ⟨rfl, fun b hb hb0 hi => ?_⟩, fun h => by (cases h), ⟨rfl, rfl, rfl, rfl, rfl, rfl, rfl, trivial⟩, rfl⟩ ?_
    · exfalso
      have h1 : (orderF f.terms).idxOf b = 0 := by omega
      exact hb0 ((gra f.terms hcl).inj b 0 hb (order_zero hcl) (by rw [(gra f.terms hcl).pl0]; exact h1))
    rintro _ σ L ⟨k, ul, mv, rfl, hk, hul, hps, hfx, hlow, hs, rfl⟩
    refine Cd.has hs ?_
    refine Cd.seq ?_
    refine Cd.region ?_
    refine Ol.p lsi ?_
    refine Ol.nil ?_
    refine Cd.seq ?_
    refine Cd.cond rfl (fun h => ?_) (fun h => ?_)   -- $76
    · have hlt : k < ol - 1 := by simpa using h
      have hA : A73 = some ⟨gO, kO + 1, none⟩ := by
        rw [← hA73, if_neg (by omega)]
        simp [add_lit_]
      obtain ⟨b, hb⟩ : ∃ b, (orderF f.terms)[k + 1]? = some b := ⟨_, List.getElem?_eq_getElem (by omega)⟩
      have hbm : b ∈ orderF f.terms := List.mem_of_getElem? hb
      have hbn := holt b hbm
      have hbi : (orderF f.terms).idxOf b = k + 1 := by
        have h1 := List.getElem_idxOf (List.idxOf_lt_length_of_mem hbm)
        have h3 : (orderF f.terms)[(orderF f.terms).idxOf b]? = (orderF f.terms)[k + 1]? := by
          rw [hb, List.getElem?_eq_getElem (List.idxOf_lt_length_of_mem hbm), h1]
        exact (List.getElem?_inj (List.idxOf_lt_length_of_mem hbm) (order_nodup hcl)).1 h3
      have hb0 : b ≠ 0 := fun e => by
        subst e
        have := (gra f.terms hcl).pl0
        have h2 : (orderF f.terms).idxOf 0 = 0 := this
        omega
      have hpar := (gra f.terms hcl).par b hbm hb0
      have hubv := ints_get' (asU_get (ul := ul) (b := b) (by omega))
      have hmeet : ∀ (M : List Res) (w' : World), Hp w w.heap.size (M ++ madeR f n gI gP gU gO g2 g1 csO (ints ul).toArray H (preI f.terms)) w' → ∀ q a : Nat, Pr (asU ul) q → Pr (asU ul) a →
          Ct Tryz.prog 77 #[treeV (some ⟨gU, 0, none⟩) (some ⟨gP, 0, none⟩) n n n n, .int .i64 (q : Int), .int .i64 (a : Int)] w' (fun v R => ∃ m : Nat, v = .int .i64 (m : Int) ∧ Meet (asU ul) q a m ∧ R = []) := fun M w' hh q a hq ha => by
        have := dom_meet_ct (w := w') (AU := some ⟨gU, 0, none⟩) (AP := some ⟨gP, 0, none⟩) (cU := n) (cP := n) (ul := ul) (pl := plL f.terms) (G := gra f.terms hcl) (Reads.blk hh (i := 2) rfl (by simp [ints]) (fun j u hu => by simpa using hu)) (Reads.blk hh (i := 1) rfl (by simp [ints]) (fun j u hu => by simpa using hu)) hps.tr
          (fun x hx => by rw [plL_get (by rw [← hn]; exact holt x hx), if_pos (show x ∈ orderF f.terms from hx)]; rfl) (fun x hx => ⟨by rw [hul]; exact holt x hx, by rw [plL_len, ← hn]; exact holt x hx⟩) hq ha
        rw [hul, plL_len, ← hn] at this
        exact this
      refine Cd.skip ?_
      refine Cd.mid (fun σ' L' => ∃ (ul' : List Int) (mv' : Bool), ul'.length = n ∧ Ps (gra f.terms hcl) (preF f.terms) (asU ul') (k + 2) ∧ (mv' = false → ul' = ul0 ∧ ∀ b ∈ orderF f.terms, b ≠ 0 → (orderF f.terms).idxOf b < k + 2 → Eva (asU ul') (preF f.terms b) (asU ul' b)) ∧ (mv' = true → mu ul' < mu ul0) ∧
          Has σ' [(2, .pointer (some ⟨g2, 0, none⟩)), (3, .slice (some ⟨gO, kO, none⟩) ol cO), (6, .slice (some ⟨gI, 0, none⟩) f.blocks.length f.blocks.length), (9, .bool mv'), (73, .slice A73 (ol - 1) (cO - 1)), (74, .int .i64 ((ol - 1 : Nat) : Int)), (75, .int .i64 k)] ∧ madeR f n gI gP gU gO g2 g1 csO (ints ul').toArray H (preI f.terms) = L') ?_ ?_
      · subst hA
        refine Cd.block ?_   -- 7
        refine Cd.seq ?_
        unfold madeR
        refine Cd.region ?_
        refine Ol.p (ixo (ix := k) sl_L_int) ?_
        refine Ol.p (ld (v := .int .i64 (b : Int)) one_int (Rd.blk (k := kO + 1 + k * 1) (i := 3) rfl (by rw [Nat.mul_one, show kO + 1 + k = kO + (k + 1) by omega]; exact hOget (k + 1) b hb))) ?_
        refine Ol.p asi ?_
        refine Ol.nil ?_
        refine Cd.seq ?_
        refine Cd.region ?_
        refine Ol.p asi ?_
        refine Ol.nil ?_
        refine Cd.seq ?_
        refine Cd.seq ?_
        refine Cd.region ?_
        refine Ol.p mvs ?_
        refine Ol.p mvi ?_
        refine Ol.p (ixo1 (ix := b) sl_L_L_int) ?_
        refine Ol.p (ld (v := .slice (H b).1 (preI f.terms b).length (H b).2) one_L_int (Rd.blk (i := 0) rfl (rngV_get hbn))) ?_
        refine Ol.p (lens sl_L_int) ?_
        refine Ol.p mvi ?_
        refine Ol.nil ?_
        have hpl : (preI f.terms b).length = (preF f.terms b).length := by simp [preI]
        have hpl4 : (preI f.terms b).length ≤ 400 := by
          simp only [preI, preF, List.length_map]
          exact Nat.le_trans (List.length_filter_le _ _) (by rw [← hE]; exact hEl)
        refine Cd.block ?_   -- 8
        refine Cd.loop (fun m σ L => ∃ (j : Nat) (r : Int), m = (preI f.terms b).length - j ∧ j ≤ (preI f.terms b).length ∧ Eva (asU ul) ((preF f.terms b).take j) r ∧ Has σ [(2, .pointer (some ⟨g2, 0, none⟩)), (3, .slice (some ⟨gO, kO, none⟩) ol cO), (6, .slice (some ⟨gI, 0, none⟩) f.blocks.length f.blocks.length), (9, .bool mv), (11, .int .i64 b), (12, .int .i64 r), (73, .slice (some ⟨gO, kO + 1, none⟩) (ol - 1) (cO - 1)), (74, .int .i64 ((ol - 1 : Nat) : Int)), (75, .int .i64 k), (82, .slice (H b).1 (preI f.terms b).length (H b).2), (83, .int .i64 (preI f.terms b).length), (84, .int .i64 j)] ∧ madeR f n gI gP gU gO g2 g1 csO (ints ul).toArray H (preI f.terms) = L) (n := (preI f.terms b).length) ⟨0, -1, rfl, Nat.zero_le _, Eva.nil, ⟨rfl, rfl, rfl, rfl, rfl, rfl, rfl, rfl, rfl, rfl, rfl, rfl, trivial⟩, rfl⟩ ?_
        clear hs
        rintro _ σ L ⟨j, r, rfl, hj, hev, hs, rfl⟩
        refine Cd.has hs ?_
        refine Cd.seq ?_
        refine Cd.region ?_
        refine Ol.p lsi ?_
        refine Ol.nil ?_
        refine Cd.seq ?_
        refine Cd.cond rfl (fun h2 => ?_) (fun h2 => ?_)   -- $85
        · have hjl : j < (preI f.terms b).length := by simpa using h2
          obtain ⟨a, ha⟩ : ∃ a, (preF f.terms b)[j]? = some a := ⟨_, List.getElem?_eq_getElem (by omega)⟩
          have hav : (ints (preI f.terms b))[j]? = some (.int .i64 (a : Int)) := ints_get' (by simp [preI, ha])
          have haE := mem_preF.1 (List.mem_of_getElem? ha)
          have han : a < n := by have := (toAt_lt hcl haE).2.2; omega
          have huav := ints_get' (asU_get (ul := ul) (b := a) (by omega))
          have htake := take_snoc_ ha
          refine Cd.skip ?_
          refine Cd.mid (fun σ' L' => ∃ r' : Int, Eva (asU ul) ((preF f.terms b).take (j + 1)) r' ∧ Has σ' [(2, .pointer (some ⟨g2, 0, none⟩)), (3, .slice (some ⟨gO, kO, none⟩) ol cO), (6, .slice (some ⟨gI, 0, none⟩) f.blocks.length f.blocks.length), (9, .bool mv), (11, .int .i64 b), (12, .int .i64 r'), (73, .slice (some ⟨gO, kO + 1, none⟩) (ol - 1) (cO - 1)), (74, .int .i64 ((ol - 1 : Nat) : Int)), (75, .int .i64 k), (82, .slice (H b).1 (preI f.terms b).length (H b).2), (83, .int .i64 (preI f.terms b).length), (84, .int .i64 j)] ∧ madeR f n gI gP gU gO g2 g1 csO (ints ul).toArray H (preI f.terms) = L') ?_ ?_
          · rw [htake]
            refine Cd.block ?_   -- 9
            refine Cd.seq ?_
            unfold madeR
            refine Cd.region ?_
            refine Ol.p (ixn1 (ix := j) sl_L_int (Som.row (i := b + 6) (rowsP_get hbn) (by omega))) ?_
            refine Ol.p (ld one_int (Rd.row (i := b + 6) (rowsP_get hbn) hav)) ?_
            refine Ol.p asi ?_
            refine Ol.nil ?_
            refine Cd.block ?_   -- 10
            refine Cd.mid (fun σ' L' => Has σ' [(2, .pointer (some ⟨g2, 0, none⟩)), (3, .slice (some ⟨gO, kO, none⟩) ol cO), (6, .slice (some ⟨gI, 0, none⟩) f.blocks.length f.blocks.length), (9, .bool mv), (11, .int .i64 b), (12, .int .i64 r), (14, .int .i64 a), (73, .slice (some ⟨gO, kO + 1, none⟩) (ol - 1) (cO - 1)), (74, .int .i64 ((ol - 1 : Nat) : Int)), (75, .int .i64 k), (82, .slice (H b).1 (preI f.terms b).length (H b).2), (83, .int .i64 (preI f.terms b).length), (84, .int .i64 j), (92, .bool (!decide (a = 0) && decide (asU ul a < 0)))] ∧ madeR f n gI gP gU gO g2 g1 csO (ints ul).toArray H (preI f.terms) = L') ?_ ?_
            · cases h0 : decide ((a : Int) = 0) with
              | true =>
                have ha0 : a = 0 := by simp at h0; omega
                have hg2 : (!decide ((a : Int) = 0)) = false := by rw [h0]; rfl
                refine Cd.region ?_
                refine Ol.p mvi ?_
                refine Ol.p nei ?_
                refine Ol.p mvb ?_
                refine Ol.gn hg2 ?_
                refine Ol.gn hg2 ?_
                refine Ol.gn hg2 ?_
                refine Ol.gn hg2 ?_
                refine Ol.gn hg2 ?_
                refine Ol.gn hg2 ?_
                refine Ol.p (pkFb hg2) ?_
                refine Ol.p asb ?_
                refine Ol.nil ?_
                refine ⟨⟨rfl, rfl, rfl, rfl, rfl, rfl, rfl, rfl, rfl, rfl, rfl, rfl, rfl, ?_, trivial⟩, rfl⟩
                subst ha0; rfl
              | false =>
                have ha0 : a ≠ 0 := by simp at h0; omega
                have hg2 : (!decide ((a : Int) = 0)) = true := by rw [h0]; rfl
                refine Cd.region ?_
                refine Ol.p mvi ?_
                refine Ol.p nei ?_
                refine Ol.p mvb ?_
                refine Ol.gp hg2 (fdl fd_dom_tree_0) ?_
                refine Ol.gp hg2 (ld one_L_int (Rd.blk (i := 4) rfl rfl)) ?_
                refine Ol.gp hg2 mvi ?_
                refine Ol.gp hg2 (ixo1 (ix := a) sl_L_int) ?_
                refine Ol.gp hg2 (ld one_int (Rd.blk (i := 2) rfl (by simpa using huav))) ?_
                refine Ol.gp hg2 lsi ?_
                refine Ol.p (pkTb hg2) ?_
                refine Ol.p asb ?_
                refine Ol.nil ?_
                refine ⟨⟨rfl, rfl, rfl, rfl, rfl, rfl, rfl, rfl, rfl, rfl, rfl, rfl, rfl, ?_, trivial⟩, rfl⟩
                simp [ha0, updO, upd]
            rintro σ' _ ⟨hs', rfl⟩
            refine Cd.has hs' ?_
            refine Cd.cond rfl (fun h3 => ?_) (fun h3 => ?_)   -- $92
            · have hnp : ¬ Pr (asU ul) a := by
                simp only [Bool.and_eq_true, Bool.not_eq_true', decide_eq_false_iff_not, decide_eq_true_eq] at h3
                rintro (e | e)
                · exact h3.1 e
                · omega
              refine Cd.skip ?_
              exact ⟨r, hev.skip hnp, ⟨rfl, rfl, rfl, rfl, rfl, rfl, rfl, rfl, rfl, rfl, rfl, rfl, trivial⟩, rfl⟩
            have hpa : Pr (asU ul) a := by
              by_cases e : a = 0
              · exact .inl e
              · right
                simp [e] at h3
                omega
            refine Cd.seq ?_
            refine Cd.region ?_
            refine Ol.p mvi ?_
            refine Ol.p lsi ?_
            refine Ol.p asb ?_
            refine Ol.nil ?_
            refine Cd.cond rfl (fun h4 => ?_) (fun h4 => ?_)   -- $103
            · have hr1 : r = -1 := by
                simp only [decide_eq_true_eq] at h4
                rcases hev with ⟨e, _⟩ | ⟨m, e, _⟩
                · exact e
                · omega
              subst hr1
              refine Cd.region ?_
              refine Ol.p mvi ?_
              refine Ol.p asi ?_
              refine Ol.nil ?_
              exact ⟨(a : Int), hev.first hpa, ⟨rfl, rfl, rfl, rfl, rfl, rfl, rfl, rfl, rfl, rfl, rfl, rfl, trivial⟩, rfl⟩
            obtain ⟨q, hq⟩ : ∃ q : Nat, r = (q : Int) := by
              simp only [decide_eq_false_iff_not] at h4
              exact ⟨r.toNat, by omega⟩
            subst hq
            have hpq : Pr (asU ul) q := by
              rcases hev with ⟨e, _⟩ | ⟨m, e, hm, _⟩
              · omega
              · have : m = q := by omega
                subst this; exact hm
            refine Cd.region ?_
            refine Ol.p (ldw ag_dom_tree (i := 4) rfl rfl) ?_
            refine Ol.p mvi ?_
            refine Ol.p mvi ?_
            refine Ol.x (sp_call en_dom_tree_meet (fun M w' hh => hmeet M w' hh q a hpq hpa)) ?_
            rintro _ _ ⟨_, rfl, m, rfl, hm, rfl⟩
            refine Ol.p asi ?_
            refine Ol.nil ?_
            exact ⟨(m : Int), hev.meet hps.tr hpa hm, ⟨rfl, rfl, rfl, rfl, rfl, rfl, rfl, rfl, rfl, rfl, rfl, rfl, trivial⟩, rfl⟩
          rintro σ' _ ⟨r', hev', hs', rfl⟩
          refine Cd.has hs' ?_
          refine Cd.region ?_
          refine Ol.p addi ?_
          refine Ol.p mvi ?_
          refine Ol.nil ?_
          exact ⟨(preI f.terms b).length - (j + 1), by omega, j + 1, r', rfl, by omega, hev', ⟨rfl, rfl, rfl, rfl, rfl, rfl, rfl, rfl, rfl, rfl, rfl, rfl, trivial⟩, rfl⟩
        have hje : (preF f.terms b).take j = preF f.terms b := by
          have : ¬ (j : Int) < (preI f.terms b).length := by simpa using h2
          exact List.take_of_length_le (by omega)
        rw [hje] at hev
        refine Cd.exit (id := 8) ?_
        refine Cd.seq ?_
        unfold madeR
        refine Cd.region ?_
        refine Ol.p mvi ?_
        refine Ol.p (fdl fd_dom_tree_0) ?_
        refine Ol.p (ld one_L_int (Rd.blk (i := 4) rfl rfl)) ?_
        refine Ol.p mvi ?_
        refine Ol.p (ixo1 (ix := b) sl_L_int) ?_
        refine Ol.p (ld one_int (Rd.blk (i := 2) rfl (by simpa using hubv))) ?_
        refine Ol.p nei ?_
        refine Ol.nil ?_
        refine Cd.cond rfl (fun h3 => ?_) (fun h3 => ?_)   -- $114
        · have hne : r ≠ asU ul b := by simpa using h3
          obtain ⟨m, hm⟩ : ∃ m : Nat, r = (m : Int) := by
            rcases hev with ⟨_, e2⟩ | ⟨m, e, _⟩
            · exact absurd (hps.j5 _ hpar.1 (by have := hpar.2.2; have h5 : (gra f.terms hcl).pl b = k + 1 := hbi; omega)) (e2 _ (mem_preF.2 hpar.2.1))
            · exact ⟨m, e⟩
          subst hm
          refine Cd.region ?_
          refine Ol.p (fdl fd_dom_tree_0) ?_
          refine Ol.p (ld one_L_int (Rd.blk (i := 4) rfl rfl)) ?_
          refine Ol.p mvi ?_
          refine Ol.p mvi ?_
          refine Ol.p (ixo1 (ix := b) sl_L_int) ?_
          refine Ol.s (sto (i := 2) (k := b) (.inr sz_int) rfl rfl rfl (by rw [ints_size]; omega) rfl) ?_
          refine Ol.p asb ?_
          refine Ol.nil ?_
          refine ⟨ul.set b (m : Int), true, by simpa using hul, ?_, fun h => (by cases h), fun _ => ?_, ⟨rfl, rfl, rfl, rfl, rfl, rfl, rfl, trivial⟩, ?_⟩
          · rw [asU_set (by omega)]
            exact hps.turn hbm hb0 hbi (fun a => mem_preF) hev
          · have h6 : mu (ul.set b (m : Int)) < mu ul := by rw [hmu]; exact hps.lower hbm hb0 hbi hev hne (by omega)
            cases mv with
            | true => have := hlow rfl; omega
            | false => rw [(hfx rfl).1] at h6; rw [(hfx rfl).1]; exact h6
          · rw [← ints_set]
            rfl
        have heq : r = asU ul b := by simpa using h3
        refine Cd.skip ?_
        refine ⟨ul, mv, hul, ?_, fun hmv => ⟨(hfx hmv).1, fun c hc hc0 hci => ?_⟩, hlow, ⟨rfl, rfl, rfl, rfl, rfl, rfl, rfl, trivial⟩, rfl⟩
        · exact hps.keep hbm hb0 hbi (mem_preF.2 hpar.2.1) (by rw [← heq]; exact hev)
        · by_cases e : (orderF f.terms).idxOf c = k + 1
          · have : c = b := (gra f.terms hcl).inj c b hc hbm (by show (orderF f.terms).idxOf c = (orderF f.terms).idxOf b; omega)
            subst this
            rw [← heq]; exact hev
          · exact (hfx hmv).2 c hc hc0 (by omega)
      rintro σ' _ ⟨ul', mv', hul', hps', hfx', hlow', hs', rfl⟩
      refine Cd.has hs' ?_
      refine Cd.region ?_
      refine Ol.p addi ?_
      refine Ol.p mvi ?_
      refine Ol.nil ?_
      exact ⟨(ol - 1) - (k + 1), by omega, k + 1, ul', mv', rfl, by omega, hul', hps', hfx', hlow', ⟨rfl, rfl, rfl, rfl, rfl, rfl, rfl, trivial⟩, rfl⟩
    have hke : k + 1 = ol := by
      have : ¬ (k : Int) < ((ol - 1 : Nat) : Int) := by simpa using h
      omega
    rw [hke] at hps
    refine Cd.exit (id := 6) ?_
    have hall : ∀ c, (gra f.terms hcl).R c → (gra f.terms hcl).pl c < ol := fun c hc => by rw [hol]; exact List.idxOf_lt_length_of_mem hc
    refine ⟨2 * mu ul + mv.toNat, ?_, ul, mv, rfl, hul, hps.again hall (gra_pos hcl), fun hmv => ⟨fun c hc hc0 => (hfx hmv).2 c hc hc0 (by have := hall c hc; show (orderF f.terms).idxOf c < k + 1; rw [hke]; exact this), hps⟩, ⟨rfl, rfl, rfl, rfl, trivial⟩, rfl⟩
    cases mv with
    | true => have := hlow rfl; simp; omega
    | false => rw [(hfx rfl).1]; simp
  subst h
  obtain ⟨hfx, hpsN⟩ := hfix0 rfl
  have hall : ∀ c, (gra f.terms hcl).R c → (gra f.terms hcl).pl c < ol := fun c hc => by rw [hol]; exact List.idxOf_lt_length_of_mem hc
  have hD : DomU f.terms ul0 := ⟨by rw [hul0, hn], fun hc => hpsN.fin hall (fun a b => mem_preF) hfx⟩
  have hD2 := domL_spec hD
  have hDe := hD.eqL hcl
  subst hDe
  refine Cd.exit (id := 4) ?_
  refine Cd.seq ?_
  unfold madeR
  refine Cd.region ?_
  refine Ol.p (ldw ag_dom_tree (i := 4) rfl rfl) ?_
  refine Ol.s (stw (vs := #[.slice (some ⟨gU, 0, none⟩) n n, .slice (some ⟨gP, 0, none⟩) n n]) sz_dom_tree rfl (by intro u hu; simp at hu; rcases hu with rfl | rfl <;> rfl) (i := 4) rfl rfl) ?_
  refine Ol.nil ?_
  subst hn
  exact Cd.ret ⟨_, retc rfl ag_dom_tree rfl (i := 4) rfl rfl, _, .sub (.cons _ (.cons_cons _ (.cons_cons _ (List.nil_sublist _)))), .inr ⟨hcl, hD2, gU, gP, rfl, rfl⟩⟩
end
end Go.Proofs.YtkefmjhagmacfaaGreatDoor

/- The package dom: who stands over whom, walked. -/
namespace Go.Proofs.YtkefmjhagmacfaaGreatDoor
set_option linter.unusedVariables false
open Go Go.RowKit
set_option maxRecDepth 100000

section
/-- The blocks up from one, as the iterator goes through them. -/
def upsC (ul pl : List Int) (N : Nat) (b : Int) : List Nat := bif inP pl b then chF (asU ul) N b.toNat else []
def ysC (l : List Nat) : List (List Value) := l.map fun d : Nat => [.int .i64 (d : Int)]
theorem ysC_one (l : List Nat) : ∀ vs ∈ ysC l, vs.length = 1 := by
  intro vs hvs
  unfold ysC at hvs
  rw [List.mem_map] at hvs
  obtain ⟨_, _, rfl⟩ := hvs
  rfl
theorem ysC_get {l : List Nat} {k : Nat} {vs : List Value} (h : (ysC l)[k]? = some vs) : ∃ d, l[k]? = some d ∧ vs = [.int .i64 (d : Int)] ∧ k < l.length := by
  unfold ysC at h
  rw [List.getElem?_map] at h
  cases hn : l[k]? with
  | none => rw [hn] at h; cases h
  | some e => rw [hn] at h; cases h; exact ⟨e, rfl, rfl, (List.getElem?_eq_some_iff.1 hn).1⟩
/-- A tree that can be gone up. -/
structure Up (ul pl : List Int) (N : Nat) (G : Gra) : Prop where
  tr : Tr G (asU ul)
  len : ∀ x, G.R x → x < ul.length ∧ x < pl.length ∧ G.pl x < N
  inn : ∀ b, inP pl b = true → G.R b.toNat ∧ 0 ≤ b
  pln : pl.length < 2 ^ 50
  neg : ∀ x, asU ul x = -1 ∨ 0 ≤ asU ul x
def ChainV (gT gB : Nat) : Value := .func (.func 134) #[] #[.pointer (some ⟨gT, 0, none⟩), .pointer (some ⟨gB, 0, none⟩)]
theorem dom_chain_ct {w : World} {AU AP : Option Addr} {nU nP cU cP : Nat} {b : Int} : Ct Tryz.prog 107 #[treeV AU AP nU nP cU cP, .int .i64 b] w (fun v L => ∃ gT gB, v = ChainV gT gB ∧ L = [blk gB (.cells #[.int .i64 b] 3), blk gT (.cells #[.slice AU nU cU, .slice AP nP cP] 103)]) := by
  refine Ct.mk Tryz.func107 rfl rfl ?_
  refine Cd.seq ?_
  refine Cd.region ?_
  refine Ol.x bxg ?_
  rintro _ _ ⟨g2, rfl, rfl⟩
  refine Ol.x bxi ?_
  rintro _ _ ⟨g3, rfl, rfl⟩
  refine Ol.p (as_ rfl) ?_
  refine Ol.nil ?_
  refine Cd.seq ?_
  refine Cd.region ?_
  refine Ol.p mkf ?_
  refine Ol.p asf ?_
  refine Ol.nil ?_
  exact Cd.ret ⟨_, ret1 rfl rfl, _, .all, g2, g3, rfl, rfl⟩
set_option maxHeartbeats 1000000 in
theorem dom_chain_1_it {w0 : World} {B gT gB : Nat} {AU AP : Option Addr} {cU cP N : Nat} {ul pl : List Int} {G : Gra} {b : Int} (hU : Reads w0 B 1 AU ul.length (ints ul)) (hP : Reads w0 B 1 AP pl.length (ints pl)) (hpn : pl.length < 2 ^ 50) (h' : inP pl b = true → Up ul pl N G) (hb : -9223372036854775808 ≤ b ∧ b ≤ 9223372036854775807) :
    It Tryz.prog w0 B 134 #[.pointer (some ⟨gT, 0, none⟩), .pointer (some ⟨gB, 0, none⟩)] [blk gB (.cells #[.int .i64 b] 3), blk gT (.cells #[.slice AU ul.length cU, .slice AP pl.length cP] 103)] (ysC (upsC ul pl N b)) := by
  intro y J Jx L0 hY h0
  refine Cm.mk Tryz.func134 rfl rfl fun M => ?_
  have hret : ∀ {e : Exit} {σ : Env} {Lj D : List Res}, (e = .ret ∨ e = .normal) → (J (ysC (upsC ul pl N b)).length Lj ∨ ∃ k, Jx k Lj) → Out ⟨Tryz.prog, 20, none, w0, B, M⟩ Tryz.f134 (fun _ L => ∃ Own' Lj, L = Own' ++ Lj ∧ (J (ysC (upsC ul pl N b)).length Lj ∨ ∃ k, Jx k Lj)) e σ (D ++ Lj) := fun {e σ Lj D} he h => by
    rcases he with rfl | rfl <;> exact ⟨_, ret0 rfl, _, .all, D, Lj, rfl, h⟩
  refine Cd.seq ?_
  refine Cd.seq ?_
  refine Cd.region ?_
  refine Ol.p (ldw ag_dom_tree (i := 1) rfl rfl) ?_
  refine Ol.p (ldv one_int (i := 0) rfl) ?_
  refine Ol.s (cl en_dom_tree_reached (fun M w' hh => dom_reached_ct (nU := ul.length) (cU := cU) (cP := cP) (AU := AU) (hP.now hh) hpn hb)) ?_
  refine Ol.p noti ?_
  refine Ol.nil ?_
  refine Cd.cond rfl (fun h1 => ?_) (fun h1 => ?_)   -- $7
  · have e : upsC ul pl N b = [] := by
      unfold upsC
      have : inP pl b = false := by simpa using h1
      rw [this]; rfl
    exact Cd.ret (hret (D := [_, _]) (.inl rfl) (.inl (by rw [e]; simpa [ysC] using h0)))
  have hin : inP pl b = true := by simpa using h1
  have h := h' hin
  obtain ⟨hbR, hb0⟩ := h.inn b hin
  obtain ⟨ch, hch⟩ : ∃ ch, ch = upsC ul pl N b := ⟨_, rfl⟩
  have hch2 : ch = chF (asU ul) N b.toNat := by rw [hch]; unfold upsC; rw [hin]; rfl
  rw [← hch] at hY ⊢
  have hret : ∀ {e : Exit} {σ : Env} {Lj D : List Res}, (e = .ret ∨ e = .normal) → (J (ysC ch).length Lj ∨ ∃ k, Jx k Lj) → Out ⟨Tryz.prog, 20, none, w0, B, M⟩ Tryz.f134 (fun _ L => ∃ Own' Lj, L = Own' ++ Lj ∧ (J (ysC ch).length Lj ∨ ∃ k, Jx k Lj)) e σ (D ++ Lj) := fun {e σ Lj D} he h => by
    rw [hch] at h ⊢
    exact hret he h
  refine Cd.skip ?_
  refine Cd.block ?_   -- 0
  refine Cd.loop (fun m σ L => ∃ (i : Nat) (x : Int) (Lj : List Res), (0 ≤ x → m = G.pl x.toNat + 1 ∧ G.R x.toNat ∧ ∃ n', G.pl x.toNat < n' ∧ ch.drop i = chF (asU ul) n' x.toNat) ∧ (x < 0 → i = ch.length) ∧ (-9223372036854775808 ≤ x ∧ x ≤ 9223372036854775807) ∧ Has σ [(0, .func (.yield y) #[] #[]), (1, .pointer (some ⟨gT, 0, none⟩)), (2, .pointer (some ⟨gB, 0, none⟩))] ∧
      L = blk gB (.cells #[.int .i64 x] 3) :: blk gT (.cells #[.slice AU ul.length cU, .slice AP pl.length cP] 103) :: Lj ∧ J i Lj) (n := G.pl b.toNat + 1) ⟨0, b, L0, fun _ => ⟨rfl, hbR, N, (h.len _ hbR).2.2, by rw [hch2]; rfl⟩, fun hn => absurd hb0 (by omega), hb, ⟨rfl, rfl, rfl, trivial⟩, rfl, h0⟩ ?_
  rintro m σ L ⟨i, x, Lj, hx1, hx2, hxr, hs, rfl, hJ⟩
  refine Cd.has hs ?_
  refine Cd.seq ?_
  refine Cd.seq ?_
  cases h2 : decide (0 ≤ x) with
  | false =>
    have hx0 : x < 0 := by simp at h2; exact h2
    refine Cd.region ?_
    refine Ol.p (ldv one_int (i := 0) rfl) ?_
    refine Ol.p gei ?_
    refine Ol.p mvb ?_
    refine Ol.gn h2 ?_
    refine Ol.gn h2 ?_
    refine Ol.gn h2 ?_
    refine Ol.p (pkFb h2) ?_
    refine Ol.nil ?_
    refine Cd.cond rfl (fun h3 => by cases h3) (fun h3 => ?_)   -- $14
    refine Cd.exit (id := 0) ?_
    refine hret (D := [_, _]) (.inr rfl) (.inl ?_)
    rw [hx2 hx0] at hJ
    simpa [ysC] using hJ
  | true =>
    have hx0 : 0 ≤ x := by simpa using h2
    obtain ⟨rfl, hxR, n', hn', hdr⟩ := hx1 hx0
    have hcast : ((x.toNat : Nat) : Int) = x := by omega
    obtain ⟨q, rfl⟩ : ∃ q, n' = q + 1 := ⟨n' - 1, by omega⟩
    have hget : ch[i]? = some x.toNat := by
      have : (ch.drop i)[0]? = some x.toNat := by rw [hdr]; rfl
      simpa using this
    have hil := (List.getElem?_eq_some_iff.1 hget).1
    have hyv : (ysC ch)[i]? = some [.int .i64 x] := by
      unfold ysC
      rw [List.getElem?_map, hget]
      simp [hcast]
    have hl := h.len _ hxR
    have hux := ints_get' (asU_get (ul := ul) (b := x.toNat) hl.1)
    have hdr2 : ch.drop (i + 1) = if asU ul x.toNat < 0 then [] else chF (asU ul) q (asU ul x.toNat).toNat := by
      have : ch.drop (i + 1) = (ch.drop i).drop 1 := by rw [List.drop_drop]
      rw [this, hdr]
      rfl
    refine Cd.region ?_
    refine Ol.p (ldv one_int (i := 0) rfl) ?_
    refine Ol.p gei ?_
    refine Ol.p mvb ?_
    refine Ol.gp h2 mvf ?_
    refine Ol.gp h2 (ldv one_int (i := 0) rfl) ?_
    refine Ol.gx h2 (sp_yield (Own := [blk gB (.cells #[.int .i64 x] 3), blk gT (.cells #[.slice AU ul.length cU, .slice AP pl.length cP] 103)]) hY hyv hJ) ?_
    rintro _ _ ⟨bb, Lj', rfl, rfl, ht', hf'⟩
    refine Ol.p (pkTb h2) ?_
    refine Ol.nil ?_
    refine Cd.cond rfl (fun h3 => ?_) (fun h3 => ?_)   -- $14
    · have hJ' := ht' h3
      refine Cd.skip ?_
      refine Cd.seq ?_
      refine Cd.block ?_   -- 1
      refine Cd.skip ?_
      refine Cd.region ?_
      refine Ol.p (fdl fd_dom_tree_0) ?_
      refine Ol.p (ld (v := .slice AU ul.length cU) one_L_int (Rd.blk (i := 1) rfl rfl)) ?_
      refine Ol.p (ldv one_int (i := 0) rfl) ?_
      refine Ol.p (ixn1 (ix := x.toNat) sl_L_int (Som.slc hU (by omega)) (hy := congrArg (Value.int .i64) hcast.symm)) ?_
      refine Ol.p (ld one_int (Rd.slc hU hux)) ?_
      refine Ol.s (stv sz_int (i := 0) rfl rfl) ?_
      refine Ol.nil ?_
      have hup := h.neg x.toNat
      rcases hup with e | e
      · refine ⟨0, by omega, i + 1, _, Lj', fun h5 => by omega, fun _ => ?_, by omega, ⟨rfl, rfl, rfl, trivial⟩, rfl, hJ'⟩
        rw [if_pos (by omega)] at hdr2
        have := List.drop_eq_nil_iff.1 hdr2
        omega
      · have hr := h.tr.up _ e
        rw [if_neg (by omega)] at hdr2
        have hlR := h.len _ hr.2.1
        have hul : (asU ul x.toNat).toNat < 2 ^ 50 := by have := h.pln; omega
        refine ⟨G.pl (asU ul x.toNat).toNat + 1, by have := hr.2.2.1; omega, i + 1, _, Lj', fun _ => ⟨rfl, hr.2.1, q, by have := hr.2.2.1; omega, hdr2⟩, fun h5 => by omega, by omega, ⟨rfl, rfl, rfl, trivial⟩, rfl, hJ'⟩
    refine Cd.exit (id := 0) ?_
    exact hret (D := [_, _]) (.inr rfl) (.inr ⟨_, hf' h3⟩)
theorem dom_over_ct {w : World} {AU AP : Option Addr} {cU cP N : Nat} {ul pl : List Int} {G : Gra} {a b : Int} (hU : Reads w w.heap.size 1 AU ul.length (ints ul)) (hP : Reads w w.heap.size 1 AP pl.length (ints pl)) (hpn : pl.length < 2 ^ 50) (h : inP pl b = true → Up ul pl N G) (hb : -9223372036854775808 ≤ b ∧ b ≤ 9223372036854775807) :
    Ct Tryz.prog 74 #[treeV AU AP ul.length pl.length cU cP, .int .i64 a, .int .i64 b] w (Is (.bool ((upsC ul pl N b).any fun d => decide ((d : Int) = a)))) := by
  refine Ct.mk Tryz.func74 rfl rfl ?_
  refine Cd.seq ?_
  refine Cd.region ?_
  refine Ol.x bxg ?_
  rintro _ _ ⟨g3, rfl, rfl⟩
  refine Ol.x bxi ?_
  rintro _ _ ⟨g4, rfl, rfl⟩
  refine Ol.x (alc zr_bool) ?_
  rintro _ _ ⟨g6, rfl, rfl⟩
  refine Ol.nil ?_
  refine Cd.seq ?_
  refine Cd.seq ?_
  refine Cd.region ?_
  refine Ol.p (ldw ag_dom_tree (i := 2) rfl rfl) ?_
  refine Ol.p mvi ?_
  refine Ol.x (sp_call en_dom_tree_chain (fun M w' hh => dom_chain_ct (b := b))) ?_
  rintro _ _ ⟨_, rfl, gT, gB, rfl, rfl⟩
  refine Ol.nil ?_
  obtain ⟨ch, hch⟩ : ∃ ch, ch = upsC ul pl N b := ⟨_, rfl⟩
  rw [← hch]
  refine Cd.block ?_   -- 0
  refine Cd.rf (Own := [blk gB (.cells #[.int .i64 b] 3), blk gT (.cells #[.slice AU ul.length cU, .slice AP pl.length cP] 103)]) (L0 := [blk g6 (.cells #[.bool false] 4), blk g4 (.cells #[.int .i64 a] 3), blk g3 (.cells #[.slice AU ul.length cU, .slice AP pl.length cP] 103)])
    (fun k L => L = [blk g6 (.cells #[.bool false] 4), blk g4 (.cells #[.int .i64 a] 3), blk g3 (.cells #[.slice AU ul.length cU, .slice AP pl.length cP] 103)] ∧ ∀ i d, i < k → ch[i]? = some d → decide ((d : Int) = a) = false)
    (fun _ c L => c = .ret ∧ L = [blk g6 (.cells #[.bool true] 4), blk g4 (.cells #[.int .i64 a] 3), blk g3 (.cells #[.slice AU ul.length cU, .slice AP pl.length cP] 103)] ∧ (ch.any fun d => decide ((d : Int) = a)) = true) (fun _ h => by cases h) en_dom_tree_chain_1 (by rw [hch]; exact dom_chain_1_it hU hP hpn h hb) (.refl _) ⟨rfl, fun i d hi => by omega⟩ (ysC_one ch) rfl ?_ ?_ ?_
  · rintro l H k vs Lj hk ⟨rfl, hno⟩
    obtain ⟨d, hd, rfl, hlt⟩ := ysC_get hk
    refine Cd.region ?_
    refine Ol.p asi ?_
    refine Ol.nil ?_
    intro H' r hr
    refine Cd.block ?_   -- 1
    refine Cd.seq ?_
    refine Cd.region ?_
    refine Ol.p mvi ?_
    refine Ol.p (ldv one_int (i := 1) rfl) ?_
    refine Ol.p eqi ?_
    refine Ol.nil ?_
    refine Cd.cond rfl (fun h2 => ?_) (fun h2 => ?_)   -- $14
    · refine Cd.seq ?_
      refine Cd.region ?_
      refine Ol.s (stv sz_bool (i := 0) rfl rfl) ?_
      refine Ol.nil ?_
      refine Cd.ret ⟨rfl, rfl, ?_⟩
      rw [List.any_eq_true]
      exact ⟨d, List.mem_of_getElem? hd, h2⟩
    refine Cd.skip ⟨rfl, fun i d' hi hd' => ?_⟩
    by_cases e : i = k
    · subst e
      rw [hd] at hd'; cases hd'
      exact h2
    · exact hno i d' (by omega) hd'
  · rintro L' ⟨rfl, hno⟩
    have hf : (ch.any fun d => decide ((d : Int) = a)) = false := by
      rw [List.any_eq_false]
      intro d hd
      obtain ⟨i, hi, rfl⟩ := List.getElem_of_mem hd
      have := hno i _ (by simpa [ysC] using hi) (List.getElem?_eq_getElem hi)
      rw [this]; simp
    refine Cd.seq ?_
    refine Cd.region ?_
    refine Ol.s (stv sz_bool (i := 0) rfl rfl) ?_
    refine Ol.nil ?_
    exact Cd.ret ⟨.bool _, retv rfl one_bool rfl (i := 0) rfl rfl, [], .nil, by rw [hf], rfl⟩
  · rintro k c L' ⟨rfl, rfl, ht⟩
    exact Cd.ret ⟨.bool _, retv rfl one_bool rfl (i := 0) rfl rfl, [], .nil, by rw [ht], rfl⟩
/-- A tree that was made can be gone up. -/
theorem Up.of {ts : List Tm} (hc : closed ts = true) (hd : DomU ts (domL ts)) : Up (domL ts) (plL ts) (ts.length + 1) (gra ts hc) := by
  have F := hd.2 hc
  have hl := (closed_le hc).2
  refine ⟨F.tr, fun x hx => ?_, fun b hb => ?_, by rw [plL_len]; omega, fun x => ?_⟩
  · have h1 := order_lt hc hx
    have h2 : (orderF ts).idxOf x < (orderF ts).length := List.idxOf_lt_length_of_mem hx
    have h3 := order_len_le hc
    exact ⟨by rw [hd.1]; exact h1, by rw [plL_len]; exact h1, by show (orderF ts).idxOf x < _; omega⟩
  · obtain ⟨x, rfl, hx⟩ := (inP_iff hc).1 hb
    exact ⟨hx, by omega⟩
  · by_cases hx : x ∈ orderF ts
    · rcases F.all x hx with e | e
      · left; rw [e]; exact F.tr.z
      · exact .inr e
    · exact .inl (F.non x hx)
/-- A tree without blocks. -/
def G0 : Gra := ⟨fun x => x = 0, fun _ _ => False, fun _ => 0, fun _ => 0, rfl, rfl, fun a b ha hb _ => ha.trans hb.symm, fun c h h0 => absurd h h0, fun _ _ _ h => h.elim⟩
theorem overF_ups {ts : List Tm} {a b : Int} (hc : closed ts = true) : overF ts a b = (upsC (domL ts) (plL ts) (ts.length + 1) b).any fun d => decide ((d : Int) = a) := by
  unfold overF chainL upsC
  rw [hc, Bool.true_and]
theorem dom_Of_ct {w : World} {f : RFun} (hf : FunAt w w.heap.size f) (hfit : Fit f) : Ct Tryz.prog 34 #[f.val] w (fun v R => (closed f.terms = false ∧ v = .slice none 0 0 ∧ R = []) ∨ (closed f.terms = true ∧ DomU f.terms (domL f.terms) ∧ ∃ g, v = .slice (some ⟨g, 0, none⟩) f.terms.length f.terms.length ∧ R = [blk g (.cells (ints (domL f.terms)).toArray 3)])) := by
  refine Ct.mk Tryz.func34 rfl rfl ?_
  refine Cd.seq ?_
  refine Cd.region ?_
  refine Ol.x bxg ?_
  rintro _ _ ⟨g1, rfl, rfl⟩
  refine Ol.p ass ?_
  refine Ol.nil ?_
  refine Cd.seq ?_
  refine Cd.region ?_
  refine Ol.p (ldw ag_api_Func (i := 0) rfl rfl) ?_
  refine Ol.x (sp_call en_dom_made (fun M w' hh => dom_made_ct (hf.now hh) hfit)) ?_
  rintro _ _ ⟨_, rfl, ⟨hc, rfl, rfl⟩ | ⟨hc, hd, gU, gP, rfl, rfl⟩⟩
  · skip
    refine Ol.p (fdv fv_dom_tree_0 one_L_int rfl) ?_
    refine Ol.p ass ?_
    refine Ol.nil ?_
    exact Cd.ret ⟨.slice none 0 0, ret1 rfl rfl, [], .nil, .inl ⟨hc, rfl, rfl⟩⟩
  · skip
    refine Ol.p (fdv fv_dom_tree_0 one_L_int rfl) ?_
    refine Ol.p ass ?_
    refine Ol.nil ?_
    exact Cd.ret ⟨.slice _ _ _, ret1 rfl rfl, _, .sub (.cons _ (.cons_cons _ (List.nil_sublist _))), .inr ⟨hc, hd, gU, rfl, rfl⟩⟩
theorem dom_Over_ct {w : World} {f : RFun} {a b : Int} (hf : FunAt w w.heap.size f) (hfit : Fit f) (hb : -9223372036854775808 ≤ b ∧ b ≤ 9223372036854775807) : Ct Tryz.prog 36 #[f.val, .int .i64 a, .int .i64 b] w (Is (.bool (overF f.terms a b))) := by
  refine Ct.mk Tryz.func36 rfl rfl ?_
  refine Cd.seq ?_
  refine Cd.region ?_
  refine Ol.x bxg ?_
  rintro _ _ ⟨g3, rfl, rfl⟩
  refine Ol.p asb ?_
  refine Ol.nil ?_
  refine Cd.seq ?_
  refine Cd.region ?_
  refine Ol.p (ldw ag_api_Func (i := 0) rfl rfl) ?_
  refine Ol.x (sp_call en_dom_made (fun M w' hh => dom_made_ct (hf.now hh) hfit)) ?_
  rintro _ _ ⟨_, rfl, ⟨hc, rfl, rfl⟩ | ⟨hc, hd, gU, gP, rfl, rfl⟩⟩
  · have hno : inP [] b = false := by
      unfold inP
      by_cases e : 0 ≤ b <;> simp [e]
    refine Ol.p mvi ?_
    refine Ol.p mvi ?_
    refine Ol.s (cl en_dom_tree_over (fun M w' hh => dom_over_ct (ul := []) (pl := []) (a := a) (N := 1) (G := G0) ⟨rfl, fun h => by simp at h⟩ ⟨rfl, fun h => by simp at h⟩ (by decide) (fun h => by rw [hno] at h; cases h) hb)) ?_
    refine Ol.p asb ?_
    refine Ol.nil ?_
    refine Cd.ret ⟨.bool _, ret1 rfl rfl, [], .nil, ?_, rfl⟩
    unfold upsC overF chainL
    rw [hno, hc]; rfl
  · skip
    refine Ol.p mvi ?_
    refine Ol.p mvi ?_
    refine Ol.s (cl en_dom_tree_over (fun M w' hh => by have := dom_over_ct (w := w') (ul := domL f.terms) (pl := plL f.terms) (AU := some ⟨gU, 0, none⟩) (AP := some ⟨gP, 0, none⟩) (cU := f.terms.length) (cP := f.terms.length) (a := a) (Reads.blk hh (i := 1) rfl (by simp [ints]) (fun j u hu => by simpa using hu)) (Reads.blk hh (i := 0) rfl (by simp [ints]) (fun j u hu => by simpa using hu)) (by rw [plL_len]; have := (closed_le hc).2; omega) (fun _ => Up.of hc hd) hb; rw [hd.1, plL_len] at this; exact this)) ?_
    refine Ol.p asb ?_
    refine Ol.nil ?_
    exact Cd.ret ⟨.bool _, ret1 rfl rfl, [], .nil, by rw [overF_ups hc], rfl⟩
/-- The last block over two. -/
noncomputable def bothF (ts : List Tm) (a b : Int) : Int := bif closed ts && (inP (plL ts) a && inP (plL ts) b) then ((Classical.epsilon fun m : Nat => Meet (asU (domL ts)) a.toNat b.toNat m : Nat) : Int) else -1
theorem Meet.eps {G : Gra} {U : Nat → Int} {a b m : Nat} (ht : Tr G U) (ha : Pr U a) (h : Meet U a b m) : (Classical.epsilon fun m : Nat => Meet U a b m) = m := (Classical.epsilon_spec (p := fun m : Nat => Meet U a b m) ⟨m, h⟩).eq ht ha h
set_option maxHeartbeats 1000000 in
theorem dom_Both_ct {w : World} {f : RFun} {a b : Int} (hf : FunAt w w.heap.size f) (hfit : Fit f) (ha : -9223372036854775808 ≤ a ∧ a ≤ 9223372036854775807) (hb : -9223372036854775808 ≤ b ∧ b ≤ 9223372036854775807) : Ct Tryz.prog 40 #[f.val, .int .i64 a, .int .i64 b] w (Is (.int .i64 (bothF f.terms a b))) := by
  refine Ct.mk Tryz.func40 rfl rfl ?_
  refine Cd.seq ?_
  refine Cd.region ?_
  refine Ol.x bxg ?_
  rintro _ _ ⟨g3, rfl, rfl⟩
  refine Ol.p asi ?_
  refine Ol.nil ?_
  refine Cd.seq ?_
  refine Cd.region ?_
  refine Ol.p (ldw ag_api_Func (i := 0) rfl rfl) ?_
  refine Ol.x (sp_call en_dom_made (fun M w' hh => dom_made_ct (hf.now hh) hfit)) ?_
  rintro _ _ ⟨_, rfl, ⟨hc, rfl, rfl⟩ | ⟨hc, hd, gU, gP, rfl, rfl⟩⟩
  · have hno : inP [] a = false := by
      unfold inP
      by_cases e : 0 ≤ a <;> simp [e]
    have hg : (!inP [] a) = true := by rw [hno]; rfl
    refine Ol.x (alc zr_dom_tree) ?_
    rintro _ _ ⟨g7, rfl, rfl⟩
    refine Ol.s (stw (vs := #[.slice none 0 0, .slice none 0 0]) sz_dom_tree rfl (by intro u hu; simp at hu; subst hu; rfl) (i := 0) rfl rfl) ?_
    refine Ol.nil ?_
    refine Cd.seq ?_
    refine Cd.seq ?_
    refine Cd.region ?_
    refine Ol.p (ldw ag_dom_tree (i := 0) rfl rfl) ?_
    refine Ol.p mvi ?_
    refine Ol.s (cl en_dom_tree_reached (fun M w' hh => dom_reached_ct (pl := []) (nU := 0) (cU := 0) (cP := 0) (AU := none) (AP := none) ⟨rfl, fun h => by simp at h⟩ (by decide) ha)) ?_
    refine Ol.p noti ?_
    refine Ol.p mvb ?_
    refine Ol.gn hg ?_
    refine Ol.gn hg ?_
    refine Ol.gn hg ?_
    refine Ol.gn hg ?_
    refine Ol.p (pkTb hg) ?_
    refine Ol.nil ?_
    refine Cd.cond rfl (fun h => ?_) (fun h => by cases h)   -- $19
    refine Cd.seq ?_
    refine Cd.region ?_
    refine Ol.p asi ?_
    refine Ol.nil ?_
    refine Cd.ret ⟨.int .i64 _, ret1 rfl rfl, [], .nil, ?_, rfl⟩
    unfold bothF
    rw [hc]; rfl
  · skip
    refine Ol.x (alc zr_dom_tree) ?_
    rintro _ _ ⟨g7, rfl, rfl⟩
    refine Ol.s (stw (vs := #[.slice (some ⟨gU, 0, none⟩) f.terms.length f.terms.length, .slice (some ⟨gP, 0, none⟩) f.terms.length f.terms.length]) sz_dom_tree rfl (by intro u hu; simp at hu; rcases hu with rfl | rfl <;> rfl) (i := 0) rfl rfl) ?_
    refine Ol.nil ?_
    have hl := (closed_le hc).2
    have U := Up.of hc hd
    have F := hd.2 hc
    have hreach : ∀ (x : Int), (-9223372036854775808 ≤ x ∧ x ≤ 9223372036854775807) → ∀ (M : List Res) (w' : World), Hp w w.heap.size (M ++ [blk g7 (.cells #[.slice (some ⟨gU, 0, none⟩) f.terms.length f.terms.length, .slice (some ⟨gP, 0, none⟩) f.terms.length f.terms.length] 103), blk gP (.cells (ints (plL f.terms)).toArray 3), blk gU (.cells (ints (domL f.terms)).toArray 3), blk g3 (.cells f.cells.toArray 25)]) w' →
        Ct Tryz.prog 76 #[treeV (some ⟨gU, 0, none⟩) (some ⟨gP, 0, none⟩) f.terms.length f.terms.length f.terms.length f.terms.length, .int .i64 x] w' (Is (.bool (inP (plL f.terms) x))) := fun x hx M w' hh => by
      have := dom_reached_ct (w := w') (pl := plL f.terms) (nU := f.terms.length) (cU := f.terms.length) (cP := f.terms.length) (AU := some ⟨gU, 0, none⟩) (AP := some ⟨gP, 0, none⟩) (Reads.blk hh (i := 1) rfl (by simp [ints]) (fun j u hu => by simpa using hu)) (by rw [plL_len]; omega) hx
      rw [plL_len] at this; exact this
    refine Cd.seq ?_
    refine Cd.mid (fun σ' L' => Has σ' [(1, .int .i64 a), (2, .int .i64 b), (3, .pointer (some ⟨g3, 0, none⟩)), (7, .pointer (some ⟨g7, 0, none⟩)), (19, .bool (!(inP (plL f.terms) a && inP (plL f.terms) b)))] ∧ [blk g7 (.cells #[.slice (some ⟨gU, 0, none⟩) f.terms.length f.terms.length, .slice (some ⟨gP, 0, none⟩) f.terms.length f.terms.length] 103), blk gP (.cells (ints (plL f.terms)).toArray 3), blk gU (.cells (ints (domL f.terms)).toArray 3), blk g3 (.cells f.cells.toArray 25)] = L') ?_ ?_
    · cases hA : inP (plL f.terms) a with
      | false =>
        have hg : (!inP (plL f.terms) a) = true := by rw [hA]; rfl
        refine Cd.region ?_
        refine Ol.p (ldw ag_dom_tree (i := 0) rfl rfl) ?_
        refine Ol.p mvi ?_
        refine Ol.s (cl en_dom_tree_reached (hreach a ha)) ?_
        refine Ol.p noti ?_
        refine Ol.p mvb ?_
        refine Ol.gn hg ?_
        refine Ol.gn hg ?_
        refine Ol.gn hg ?_
        refine Ol.gn hg ?_
        refine Ol.p (pkTb hg) ?_
        refine Ol.nil ?_
        exact ⟨⟨rfl, rfl, rfl, rfl, rfl, trivial⟩, rfl⟩
      | true =>
        have hg : (!inP (plL f.terms) a) = false := by rw [hA]; rfl
        refine Cd.region ?_
        refine Ol.p (ldw ag_dom_tree (i := 0) rfl rfl) ?_
        refine Ol.p mvi ?_
        refine Ol.s (cl en_dom_tree_reached (hreach a ha)) ?_
        refine Ol.p noti ?_
        refine Ol.p mvb ?_
        refine Ol.gp hg (ldw ag_dom_tree (i := 0) rfl rfl) ?_
        refine Ol.gp hg mvi ?_
        refine Ol.gs hg (cl en_dom_tree_reached (hreach b hb)) ?_
        refine Ol.gp hg noti ?_
        refine Ol.p (pkFb hg) ?_
        refine Ol.nil ?_
        exact ⟨⟨rfl, rfl, rfl, rfl, rfl, trivial⟩, rfl⟩
    rintro σ' _ ⟨hs', rfl⟩
    refine Cd.has hs' ?_
    refine Cd.cond rfl (fun h => ?_) (fun h => ?_)   -- $19
    · refine Cd.seq ?_
      refine Cd.region ?_
      refine Ol.p asi ?_
      refine Ol.nil ?_
      refine Cd.ret ⟨.int .i64 _, ret1 rfl rfl, [], .nil, ?_, rfl⟩
      unfold bothF
      have : (inP (plL f.terms) a && inP (plL f.terms) b) = false := by rw [← Bool.not_eq_true']; exact h
      rw [hc, this]; rfl
    have hin : (inP (plL f.terms) a && inP (plL f.terms) b) = true := by simpa using h
    obtain ⟨x, hx, hxo⟩ := (inP_iff hc).1 (Bool.and_eq_true_iff.1 hin).1
    obtain ⟨y, hy, hyo⟩ := (inP_iff hc).1 (Bool.and_eq_true_iff.1 hin).2
    subst hx
    subst hy
    refine Cd.skip ?_
    refine Cd.seq ?_
    refine Cd.region ?_
    refine Ol.p (ldw ag_dom_tree (i := 0) rfl rfl) ?_
    refine Ol.p mvi ?_
    refine Ol.p mvi ?_
    refine Ol.x (sp_call en_dom_tree_meet (fun M w' hh => by have := dom_meet_ct (w := w') (AU := some ⟨gU, 0, none⟩) (AP := some ⟨gP, 0, none⟩) (cU := f.terms.length) (cP := f.terms.length) (ul := domL f.terms) (pl := plL f.terms) (G := gra f.terms hc) (Reads.blk hh (i := 2) rfl (by simp [ints]) (fun j u hu => by simpa using hu)) (Reads.blk hh (i := 1) rfl (by simp [ints]) (fun j u hu => by simpa using hu)) F.tr (fun z hz => by rw [plL_get (order_lt hc hz), if_pos (show z ∈ orderF f.terms from hz)]; rfl) (fun z hz => ⟨(U.len z hz).1, (U.len z hz).2.1⟩) (F.all x hxo) (F.all y hyo); rw [hd.1, plL_len] at this; exact this)) ?_
    rintro _ _ ⟨_, rfl, m, rfl, hm, rfl⟩
    refine Ol.p asi ?_
    refine Ol.nil ?_
    refine Cd.ret ⟨.int .i64 _, ret1 rfl rfl, [], .nil, ?_, rfl⟩
    unfold bothF
    rw [hc, hin, Bool.true_and, cond_true, Int.toNat_natCast, Int.toNat_natCast, hm.eps F.tr (F.all x hxo)]
end
end Go.Proofs.YtkefmjhagmacfaaGreatDoor

/- Is a number one of some: walked, as each law has it. -/
namespace Go.Proofs.YtkefmjhagmacfaaGreatDoor
set_option linter.unusedVariables false
open Go Go.RowKit
set_option maxRecDepth 100000

end Go.Proofs.YtkefmjhagmacfaaGreatDoor

/- The law 11: its example, walked. -/
namespace Go.Proofs.YtkefmjhagmacfaaGreatDoor
set_option linter.unusedVariables false
open Go Go.RowKit
set_option maxRecDepth 100000

section
theorem law11_branch_ct {w : World} {x y : Int} : Ct Tryz.prog 45 #[.int .i64 x, .int .i64 y] w (Is (RBlk.val ⟨none, 0, [], ⟨2, 1, x, y⟩⟩)) := by
  refine Ct.mk Tryz.func45 rfl rfl ?_
  refine Cd.seq ?_
  refine Cd.region ?_
  refine Ol.x (alc zr_api_Block) ?_
  rintro _ _ ⟨g4, rfl, rfl⟩
  refine Ol.nil ?_
  refine Cd.seq ?_
  refine Cd.region ?_
  refine Ol.p mvi ?_
  refine Ol.p mvi ?_
  refine Ol.p (bda (cs := #[.int .i64 x, .int .i64 y]) ar_A2_int zr_A2_int (hf := by kernel_rfl)) ?_
  refine Ol.p (bds (cs := #[.int .i64 2, .int .i64 1, .int .i64 x, .int .i64 y]) bs_api_Term zr_api_Term (hf := by kernel_rfl)) ?_
  refine Ol.p (bds (cs := #[.slice none 0 0, .int .i64 2, .int .i64 1, .int .i64 x, .int .i64 y]) bs_api_Block zr_api_Block (hf := by kernel_rfl)) ?_
  refine Ol.s (stw (vs := #[.slice none 0 0, .int .i64 2, .int .i64 1, .int .i64 x, .int .i64 y]) sz_api_Block rfl (by intro u hu; simp at hu; rcases hu with rfl | rfl | rfl | rfl | rfl <;> rfl) (i := 0) rfl rfl) ?_
  refine Ol.nil ?_
  refine Cd.ret ⟨_, retc rfl ag_api_Block rfl (i := 0) rfl rfl, [], .nil, rfl, rfl⟩
theorem law11_jump_ct {w : World} {x : Int} : Ct Tryz.prog 46 #[.int .i64 x] w (Is (RBlk.val ⟨none, 0, [], ⟨1, 0, x, 0⟩⟩)) := by
  refine Ct.mk Tryz.func46 rfl rfl ?_
  refine Cd.seq ?_
  refine Cd.region ?_
  refine Ol.x (alc zr_api_Block) ?_
  rintro _ _ ⟨g2, rfl, rfl⟩
  refine Ol.nil ?_
  refine Cd.seq ?_
  refine Cd.region ?_
  refine Ol.p mvi ?_
  refine Ol.p (bda (cs := #[.int .i64 x, .int .i64 0]) ar_A2_int zr_A2_int (hf := by kernel_rfl)) ?_
  refine Ol.p (bds (cs := #[.int .i64 1, .int .i64 0, .int .i64 x, .int .i64 0]) bs_api_Term zr_api_Term (hf := by kernel_rfl)) ?_
  refine Ol.p (bds (cs := #[.slice none 0 0, .int .i64 1, .int .i64 0, .int .i64 x, .int .i64 0]) bs_api_Block zr_api_Block (hf := by kernel_rfl)) ?_
  refine Ol.s (stw (vs := #[.slice none 0 0, .int .i64 1, .int .i64 0, .int .i64 x, .int .i64 0]) sz_api_Block rfl (by intro u hu; simp at hu; rcases hu with rfl | rfl | rfl | rfl | rfl <;> rfl) (i := 0) rfl rfl) ?_
  refine Ol.nil ?_
  refine Cd.ret ⟨_, retc rfl ag_api_Block rfl (i := 0) rfl rfl, [], .nil, rfl, rfl⟩
end
section
def F11 (g : Nat) : RFun := ⟨none, 0, [], some ⟨g, 0, none⟩, 4, [⟨none, 0, [], ⟨2, 1, 1, 2⟩⟩, ⟨none, 0, [], ⟨1, 0, 3, 0⟩⟩, ⟨none, 0, [], ⟨1, 0, 3, 0⟩⟩, ⟨none, 0, [], ⟨4, 0, 0, 0⟩⟩]⟩
def T11 : List Tm := [⟨2, 1, 1, 2⟩, ⟨1, 0, 3, 0⟩, ⟨1, 0, 3, 0⟩, ⟨4, 0, 0, 0⟩]
theorem F11_fit (g : Nat) : Fit (F11 g) := by
  constructor <;> simp [F11]
theorem Reads.no {w : World} {B s : Nat} : Reads w B s none 0 [] := ⟨by simp, fun h => absurd h (by omega)⟩
theorem F11_at {w : World} {B g : Nat} (h : Reads w B 5 (some ⟨g, 0, none⟩) 4 ((F11 g).blocks.flatMap RBlk.cells)) : FunAt w B (F11 g) := by
  refine ⟨Reads.no, h, ?_, ?_⟩
  · intro b hb
    simp [F11] at hb
    rcases hb with rfl | rfl | rfl <;> exact Reads.no
  · intro b hb i hi
    simp [F11] at hb
    rcases hb with rfl | rfl | rfl <;> simp at hi
theorem T11_closed : closed T11 = true := by kernel_rfl
theorem T11_dom : DomU T11 [-1, 0, 0, 0] := DomU.of_check (by kernel_rfl)
theorem T11_domL : domL T11 = [-1, 0, 0, 0] := (T11_dom.eqL T11_closed).symm
theorem T11_over (a b : Int) (r : Bool) (h : ((upsC [-1, 0, 0, 0] (plL T11) 5 b).any fun d => decide ((d : Int) = a)) = r) : overF T11 a b = r := by
  rw [overF_ups T11_closed, T11_domL]; exact h
theorem T11_both : bothF T11 1 3 = 0 := by
  have hd : DomU T11 (domL T11) := by rw [T11_domL]; exact T11_dom
  have F := hd.2 T11_closed
  have hm : Meet (asU (domL T11)) 1 3 0 := by
    rw [T11_domL]
    refine ⟨.up (by decide) .refl, .up (by decide) .refl, fun z h1 h2 => ?_⟩
    rcases h1.inv with rfl | ⟨_, h1⟩
    · rcases h2.inv with e | ⟨_, h2⟩
      · omega
      · rcases h2.inv with e | ⟨h3, _⟩
        · exact absurd e (by decide)
        · exact absurd h3 (by decide)
    · exact h1
  have h1 : inP (plL T11) 1 = true := by kernel_rfl
  have h3 : inP (plL T11) 3 = true := by kernel_rfl
  unfold bothF
  rw [T11_closed, h1, h3, Bool.true_and, Bool.true_and, cond_true]
  rw [show ((1 : Int).toNat) = 1 from rfl, show ((3 : Int).toNat) = 3 from rfl, hm.eps F.tr (F.all 1 (by have : (1 : Nat) ∈ orderF T11 := List.contains_iff_mem.1 (show (orderF T11).contains 1 = true by kernel_rfl); exact this))]
  rfl
set_option maxHeartbeats 1000000 in
theorem law11_awake_ct {w : World} : Ct Tryz.prog 33 #[] w (Is (.bool true)) := by
  refine Ct.mk Tryz.func33 rfl rfl ?_
  refine Cd.seq ?_
  refine Cd.region ?_
  refine Ol.p asb ?_
  refine Ol.nil ?_
  refine Cd.seq ?_
  refine Cd.region ?_
  refine Ol.s (cl en_law11_branch (fun M w' hh => law11_branch_ct)) ?_
  refine Ol.s (cl en_law11_jump (fun M w' hh => law11_jump_ct)) ?_
  refine Ol.s (cl en_law11_jump (fun M w' hh => law11_jump_ct)) ?_
  refine Ol.p (bds (cs := #[.int .i64 4, .int .i64 0, .int .i64 0, .int .i64 0]) bs_api_Term zr_api_Term (hf := by kernel_rfl)) ?_
  refine Ol.p (bds (cs := #[.slice none 0 0, .int .i64 4, .int .i64 0, .int .i64 0, .int .i64 0]) bs_api_Block zr_api_Block (hf := by kernel_rfl)) ?_
  refine Ol.x (bsn [RBlk.val ⟨none, 0, [], ⟨2, 1, 1, 2⟩⟩, RBlk.val ⟨none, 0, [], ⟨1, 0, 3, 0⟩⟩, RBlk.val ⟨none, 0, [], ⟨1, 0, 3, 0⟩⟩, RBlk.val ⟨none, 0, [], ⟨4, 0, 0, 0⟩⟩] sl_L_api_Block zr_api_Block (by intro v hv; simp at hv; rcases hv with rfl | rfl | rfl <;> rfl) rfl (by decide) (by decide)) ?_
  rintro _ _ ⟨g7, rfl, rfl⟩
  refine Ol.p (bds (cs := #[.slice none 0 0, .slice (some ⟨g7, 0, none⟩) 4 4]) bs_api_Func zr_api_Func (hf := by kernel_rfl)) ?_
  refine Ol.x (alc zr_api_Func) ?_
  rintro _ _ ⟨g1, rfl, rfl⟩
  refine Ol.s (stw (vs := #[.slice none 0 0, .slice (some ⟨g7, 0, none⟩) 4 4]) sz_api_Func rfl (by intro u hu; simp at hu; rcases hu with rfl | rfl <;> rfl) (i := 0) rfl rfl) ?_
  refine Ol.nil ?_
  have hov : ∀ (a b : Int) (r : Bool), overF T11 a b = r → (-9223372036854775808 ≤ b ∧ b ≤ 9223372036854775807) → ∀ (w' : World), Reads w' w'.heap.size 5 (some ⟨g7, 0, none⟩) 4 ((F11 g7).blocks.flatMap RBlk.cells) → Ct Tryz.prog 36 #[(F11 g7).val, .int .i64 a, .int .i64 b] w' (Is (.bool r)) := fun a b r hr hb w' h => by
    have := dom_Over_ct (w := w') (f := F11 g7) (a := a) (b := b) (F11_at h) (F11_fit g7) hb
    rw [show (F11 g7).terms = T11 from rfl, hr] at this
    exact this
  refine Cd.seq ?_
  refine Cd.region ?_
  refine Ol.p (ldw ag_api_Func (i := 0) rfl rfl) ?_
  refine Ol.x (sp_call en_dom_Of (fun M' w' hh => dom_Of_ct (f := F11 g7) (w := w') (F11_at (Reads.row hh (i := 1) rfl)) (F11_fit g7))) ?_
  rintro _ _ ⟨_, rfl, ⟨hc, _⟩ | ⟨_, hd, gD, rfl, rfl⟩⟩; (exact absurd (T11_closed.symm.trans hc) (by simp))
  rw [show domL (F11 g7).terms = [-1, 0, 0, 0] from T11_domL]
  refine Ol.x (bsv [.int .i64 (-1), .int .i64 0, .int .i64 0, .int .i64 0] sl_L_int zr_int (by simp [Value.cells])) ?_
  rintro _ _ ⟨g11, rfl, rfl⟩
  refine Ol.s (cl en_kit_SameInts (fun M w' hh => kit_SameInts_ct (a := [-1, 0, 0, 0]) (b := [-1, 0, 0, 0]) (Reads.blk hh (k := 0) (i := 1) rfl rfl (fun j u hu => by simpa using hu)) (Reads.row hh (i := 0) rfl) (by decide) (by decide))) ?_
  refine Ol.p mvb ?_
  refine Ol.gp rfl (ldw ag_api_Func (i := 2) rfl rfl) ?_
  refine Ol.gs rfl (cl en_dom_Over (fun M w' hh => hov 0 3 true (T11_over 0 3 true (by kernel_rfl)) (by decide) w' (Reads.row hh (i := 3) rfl))) ?_
  refine Ol.p (pkTb rfl) ?_
  refine Ol.p mvb ?_
  refine Ol.gp rfl (ldw ag_api_Func (i := 2) rfl rfl) ?_
  refine Ol.gs rfl (cl en_dom_Over (fun M w' hh => hov 1 3 false (T11_over 1 3 false (by kernel_rfl)) (by decide) w' (Reads.row hh (i := 3) rfl))) ?_
  refine Ol.gp rfl noti ?_
  refine Ol.p (pkTb rfl) ?_
  refine Ol.p mvb ?_
  refine Ol.gp rfl (ldw ag_api_Func (i := 2) rfl rfl) ?_
  refine Ol.gs rfl (cl en_dom_Both (fun M w' hh => by have := dom_Both_ct (w := w') (f := F11 g7) (a := 1) (b := 3) (F11_at (Reads.row hh (i := 3) rfl)) (F11_fit g7) (by decide) (by decide); rw [show (F11 g7).terms = T11 from rfl, T11_both] at this; exact this)) ?_
  refine Ol.gp rfl eqi ?_
  refine Ol.p (pkTb rfl) ?_
  refine Ol.p asb ?_
  refine Ol.nil ?_
  exact Cd.ret ⟨.bool _, ret1 rfl rfl, [], .nil, rfl, rfl⟩
end
end Go.Proofs.YtkefmjhagmacfaaGreatDoor

/- Dominators by a table of rows: the last block over one, over two. Plain. -/
namespace Go.Proofs.YtkefmjhagmacfaaGreatDoor
set_option linter.unusedVariables false
set_option linter.unusedSimpArgs false
open Go Go.RowKit
theorem over_no {ts : List Tm} (hc : closed ts = false) (a b : Int) : overF ts a b = false := by
  unfold overF chainL
  rw [hc]; rfl
def natL (l : List Nat) : List Int := l.map fun n : Nat => (n : Int)
theorem natL_len (l : List Nat) : (natL l).length = l.length := by simp [natL]
theorem natL_ints (l : List Nat) : ints (natL l) = intsN l := by simp [natL, ints, intsN, Function.comp_def]
theorem mem_natL {l : List Nat} {b : Int} : b ∈ natL l ↔ ∃ n : Nat, n ∈ l ∧ b = (n : Int) := by
  unfold natL
  rw [List.mem_map]
  exact ⟨fun ⟨n, h, e⟩ => ⟨n, h, e.symm⟩, fun ⟨n, h, e⟩ => ⟨n, h, e.symm⟩⟩
theorem reached_order {ts : List Tm} (hc : closed ts = true) (i : Nat) : i ∈ reachedF ts [0] [] ↔ i ∈ orderF ts := by
  rw [mem_reachedF hc, order_mem hc]
  constructor
  · rintro ⟨a, h1, h2, h3⟩
    have : a = 0 := by simp at h2; omega
    subst this
    exact h3
  · intro h
    exact ⟨0, (closed_le hc).1, by simp, h⟩
theorem over_dom {ts : List Tm} (hc : closed ts = true) (d x : Nat) : overF ts (d : Int) (x : Int) = true ↔ Dom (gra ts hc) d x := by
  rw [overF_iff hc (domL_ex hc)]
  constructor
  · rintro ⟨a, b, h1, h2, h3, h4⟩
    have e1 : a = d := by omega
    have e2 : b = x := by omega
    subst e1 e2
    exact h4
  · intro h
    exact ⟨d, x, rfl, rfl, h.1, h⟩
theorem over_ref (ts : List Tm) (a b : Int) : overF ts a b = ((natL (reachedF ts [0] [])).contains b && (natL (reachedF ts [0] [])).contains a && !(natL (reachedF ts [0] [a])).contains b) := by
  cases hc : closed ts with
  | false =>
    rw [over_no hc]
    have e : ∀ nt, reachedF ts [0] nt = [] := fun nt => by unfold reachedF; rw [hc]; rfl
    rw [e, e]
    rfl
  | true =>
    rw [Bool.eq_iff_iff, overF_iff hc (domL_ex hc)]
    simp only [Bool.and_eq_true, List.contains_iff_mem, Bool.not_eq_true', mem_natL, List.contains_eq_mem, decide_eq_true_eq, decide_eq_false_iff_not]
    constructor
    · rintro ⟨x, y, rfl, rfl, hy, hd⟩
      have hx : x ∈ orderF ts := hd.tp.rch hd.1
      refine ⟨⟨⟨y, (reached_order hc y).2 hy, rfl⟩, ⟨x, (reached_order hc x).2 hx, rfl⟩⟩, ?_⟩
      rintro ⟨n, hn, e⟩
      have e2 : n = y := by omega
      subst e2
      exact ((dom_left hc (order_lt hc hx)).1 hd).2 hn
    · rintro ⟨⟨⟨y, hy, rfl⟩, ⟨x, hx, rfl⟩⟩, hn⟩
      have hxo := (reached_order hc x).1 hx
      have hyo := (reached_order hc y).1 hy
      exact ⟨x, y, rfl, rfl, hyo, (dom_left hc (order_lt hc hxo)).2 ⟨hyo, fun h => hn ⟨y, h, rfl⟩⟩⟩
/-- The last row over two that is told by a table. -/
def lastF (F : Nat → Nat → Bool) (a b : Nat) (nt : Int) : Nat → Int
  | 0 => -1
  | k + 1 => bif (!decide ((k : Int) = nt)) && (F k a && (F k b && (decide (lastF F a b nt k < 0) || F (lastF F a b nt k).toNat k))) then (k : Int) else lastF F a b nt k
theorem lastF_rng (F : Nat → Nat → Bool) (a b : Nat) (nt : Int) : ∀ k : Nat, -1 ≤ lastF F a b nt k ∧ lastF F a b nt k < (k : Int)
  | 0 => ⟨by show (-1 : Int) ≤ -1; omega, by show (-1 : Int) < 0; omega⟩
  | k + 1 => by
    have h := lastF_rng F a b nt k
    show -1 ≤ (bif _ then (k : Int) else lastF F a b nt k) ∧ (bif _ then (k : Int) else lastF F a b nt k) < _
    cases (!decide ((k : Int) = nt)) && (F k a && (F k b && (decide (lastF F a b nt k < 0) || F (lastF F a b nt k).toNat k))) with
    | true => rw [cond_true]; omega
    | false => rw [cond_false]; omega
theorem lastF_spec {F : Nat → Nat → Bool} {a b : Nat} {nt : Int} (hs : ∀ x, F x a = true → F x x = true) (ht : ∀ x y z, F x y = true → F y z = true → F x z = true) (hl : ∀ x y, F x a = true → F y a = true → F x y = true ∨ F y x = true) :
    ∀ k : Nat, (lastF F a b nt k = -1 ∧ ∀ d, d < k → ¬ ((d : Int) ≠ nt ∧ F d a = true ∧ F d b = true)) ∨ ∃ m : Nat, m < k ∧ lastF F a b nt k = (m : Int) ∧ ((m : Int) ≠ nt ∧ F m a = true ∧ F m b = true) ∧ ∀ d, d < k → (d : Int) ≠ nt → F d a = true → F d b = true → F d m = true
  | 0 => .inl ⟨rfl, fun d h => by omega⟩
  | k + 1 => by
    have ih := lastF_spec hs ht hl k (b := b) (nt := nt)
    have e : lastF F a b nt (k + 1) = bif (!decide ((k : Int) = nt)) && (F k a && (F k b && (decide (lastF F a b nt k < 0) || F (lastF F a b nt k).toNat k))) then (k : Int) else lastF F a b nt k := rfl
    rw [e]
    by_cases hS : (k : Int) ≠ nt ∧ F k a = true ∧ F k b = true
    · have e1 : (!decide ((k : Int) = nt)) = true := by rw [decide_eq_false hS.1]; rfl
      rw [e1, hS.2.1, hS.2.2, Bool.true_and, Bool.true_and, Bool.true_and]
      right
      rcases ih with ⟨i1, i2⟩ | ⟨m, i1, i2, i3, i4⟩
      · rw [i1]
        refine ⟨k, Nat.lt_succ_self _, rfl, hS, fun d hd h1 h2 h3 => ?_⟩
        rcases Nat.lt_or_ge d k with h4 | h4
        · exact absurd ⟨h1, h2, h3⟩ (i2 d h4)
        · have : d = k := by omega
          subst this
          exact hs _ h2
      · rw [i2, decide_eq_false (by omega : ¬ (m : Int) < 0), Bool.false_or, Int.toNat_natCast]
        cases hmk : F m k with
        | true =>
          rw [cond_true]
          refine ⟨k, Nat.lt_succ_self _, rfl, hS, fun d hd h1 h2 h3 => ?_⟩
          rcases Nat.lt_or_ge d k with h4 | h4
          · exact ht _ _ _ (i4 d h4 h1 h2 h3) hmk
          · have : d = k := by omega
            subst this
            exact hs _ h2
        | false =>
          rw [cond_false]
          refine ⟨m, by omega, rfl, i3, fun d hd h1 h2 h3 => ?_⟩
          rcases Nat.lt_or_ge d k with h4 | h4
          · exact i4 d h4 h1 h2 h3
          · have : d = k := by omega
            subst this
            rcases hl _ _ i3.2.1 h2 with h5 | h5
            · rw [hmk] at h5; cases h5
            · exact h5
    · have e2 : ((!decide ((k : Int) = nt)) && (F k a && (F k b && (decide (lastF F a b nt k < 0) || F (lastF F a b nt k).toNat k)))) = false := by
        rw [Bool.eq_false_iff]
        intro h
        simp only [Bool.and_eq_true, Bool.not_eq_true', decide_eq_false_iff_not] at h
        exact hS ⟨h.1, h.2.1, h.2.2.1⟩
      rw [e2, cond_false]
      rcases ih with ⟨i1, i2⟩ | ⟨m, i1, i2, i3, i4⟩
      · refine .inl ⟨i1, fun d hd h => ?_⟩
        rcases Nat.lt_or_ge d k with h4 | h4
        · exact i2 d h4 h
        · have : d = k := by omega
          subst this
          exact hS h
      · refine .inr ⟨m, by omega, i2, i3, fun d hd h1 h2 h3 => ?_⟩
        rcases Nat.lt_or_ge d k with h4 | h4
        · exact i4 d h4 h1 h2 h3
        · have : d = k := by omega
          subst this
          exact absurd ⟨h1, h2, h3⟩ hS
/-- The table of rows. -/
noncomputable def tabF (ts : List Tm) (d x : Nat) : Bool := overF ts (d : Int) (x : Int)
theorem dom_total {ts : List Tm} (hc : closed ts = true) {x y a : Nat} (h1 : Dom (gra ts hc) x a) (h2 : Dom (gra ts hc) y a) : Dom (gra ts hc) x y ∨ Dom (gra ts hc) y x := by
  have I := idU_fin (gra ts hc)
  have u1 := (I.dom x a h1.1).2 h1
  have u2 := (I.dom y a h2.1).2 h2
  rcases Nat.le_total ((gra ts hc).pl x) ((gra ts hc).pl y) with h | h
  · exact .inl ((I.dom x y (h2.tp.rch h2.1)).1 (u1.total I.tr u2 h))
  · exact .inr ((I.dom y x (h1.tp.rch h1.1)).1 (u2.total I.tr u1 h))
theorem last_spec {ts : List Tm} (hc : closed ts = true) (a b : Nat) (nt : Int) : (lastF (tabF ts) a b nt ts.length = -1 ∧ ∀ d : Nat, ¬ ((d : Int) ≠ nt ∧ Dom (gra ts hc) d a ∧ Dom (gra ts hc) d b)) ∨
    ∃ m : Nat, m < ts.length ∧ lastF (tabF ts) a b nt ts.length = (m : Int) ∧ ((m : Int) ≠ nt ∧ Dom (gra ts hc) m a ∧ Dom (gra ts hc) m b) ∧ ∀ d : Nat, (d : Int) ≠ nt → Dom (gra ts hc) d a → Dom (gra ts hc) d b → Dom (gra ts hc) d m := by
  have key : ∀ d x, tabF ts d x = true ↔ Dom (gra ts hc) d x := over_dom hc
  rcases lastF_spec (F := tabF ts) (a := a) (b := b) (nt := nt) (fun x h => (key _ _).2 (Dom.self (((key _ _).1 h).tp.rch ((key _ _).1 h).1))) (fun x y z h1 h2 => (key _ _).2 (((key _ _).1 h1).trans ((key _ _).1 h2))) (fun x y h1 h2 => by rw [key, key]; exact dom_total hc ((key _ _).1 h1) ((key _ _).1 h2)) ts.length with ⟨h1, h2⟩ | ⟨m, h1, h2, h3, h4⟩
  · exact .inl ⟨h1, fun d ⟨i1, i2, i3⟩ => h2 d (dom_lt hc i2) ⟨i1, (key _ _).2 i2, (key _ _).2 i3⟩⟩
  · exact .inr ⟨m, h1, h2, ⟨h3.1, (key _ _).1 h3.2.1, (key _ _).1 h3.2.2⟩, fun d i1 i2 i3 => (key _ _).1 (h4 d (dom_lt hc i2) i1 ((key _ _).2 i2) ((key _ _).2 i3))⟩
theorem dom_anti {ts : List Tm} (hc : closed ts = true) {x y : Nat} (h1 : Dom (gra ts hc) x y) (h2 : Dom (gra ts hc) y x) : x = y := by
  by_cases e : x = y
  · exact e
  · have := h1.lt e
    have := h2.lt (fun h => e h.symm)
    omega
theorem last_of {ts : List Tm} (hc : closed ts = true) {x : Nat} (hx : x < ts.length) : (domL ts)[x]? = some (lastF (tabF ts) x x (x : Int) ts.length) := by
  have hd := domL_ex hc
  rw [asU_get (by rw [hd.1]; exact hx), ((hd.2 hc).eq (idU_fin _) x)]
  congr 1
  rcases last_spec hc x x (x : Int) with ⟨h1, h2⟩ | ⟨m, h1, h2, h3, h4⟩
  · rw [h1]
    unfold idU
    by_cases e : (gra ts hc).R x ∧ x ≠ 0
    · obtain ⟨d, hi⟩ := idm_ex e.1 e.2
      exact absurd ⟨fun h => hi.2.1 (by omega), hi.1, hi.1⟩ (h2 d)
    · rw [if_neg e]
  · rw [h2]
    have hmx : m ≠ x := fun h => h3.1 (by omega)
    have hx0 : x ≠ 0 := fun h => by
      have := h3.2.1.lt hmx
      rw [h, (gra ts hc).pl0] at this
      omega
    have hp := idU_pos h3.2.1.1 hx0
    obtain ⟨_, _, i1, i2, i3⟩ := idU_spec hp
    have h5 := h4 _ (fun h => i2 (by omega)) i1 i1
    have h6 := i3 m h3.2.1 hmx
    have e : (idU (gra ts hc) x).toNat = m := by
      refine Classical.byContradiction fun hne => ?_
      have := h5.lt hne
      omega
    omega
end Go.Proofs.YtkefmjhagmacfaaGreatDoor

/- Reference 11: dominators, walked: has, Over, Below, last. -/
namespace Go.Proofs.YtkefmjhagmacfaaGreatDoor
set_option linter.unusedVariables false
set_option linter.unusedSimpArgs false
open Go Go.RowKit
set_option maxRecDepth 100000
theorem natL_contains {l : List Nat} {x : Nat} : (natL l).contains (x : Int) = l.contains x := by
  rw [Bool.eq_iff_iff, List.contains_iff_mem, List.contains_iff_mem, mem_natL]
  exact ⟨fun ⟨n, h, e⟩ => by have : n = x := by omega
                             exact this ▸ h, fun h => ⟨x, h, rfl⟩⟩
theorem reachedF_le (ts : List Tm) (fr nt : List Int) : (reachedF ts fr nt).length ≤ 1024 := by
  unfold reachedF
  cases closed ts with
  | false => simp
  | true => rw [cond_true]; exact listS_len_le _
theorem tabF_ref (ts : List Tm) (d x : Nat) : tabF ts d x = ((reachedF ts [0] []).contains x && (reachedF ts [0] []).contains d && !(reachedF ts [0] [(d : Int)]).contains x) := by
  unfold tabF
  rw [over_ref, natL_contains, natL_contains, natL_contains]
theorem reached_lt {ts : List Tm} {i : Nat} (h : i ∈ reachedF ts [0] []) : i < ts.length := by
  cases hc : closed ts with
  | false =>
    unfold reachedF at h
    rw [hc] at h
    cases h
  | true => exact order_lt hc ((reached_order hc i).1 h)
section
theorem ref11_has_ct {w : World} {A : Option Addr} {c : Nat} {l : List Int} {n : Int} (hl : Reads w w.heap.size 1 A l.length (ints l)) (hb : l.length < 2 ^ 62) : Ct Tryz.prog 75 #[.slice A l.length c, .int .i64 n] w (Is (.bool (l.contains n))) := by
  refine Ct.mk Tryz.func75 rfl rfl ?_
  refine Cd.seq ?_
  refine Cd.region ?_
  refine Ol.p asb ?_
  refine Ol.nil ?_
  refine Cd.seq ?_
  refine Cd.seq ?_
  refine Cd.region ?_
  refine Ol.p asi ?_
  refine Ol.nil ?_
  refine Cd.block ?_   -- 0
  refine Cd.loop (fun m σ L => ∃ k, m = l.length - k ∧ k ≤ l.length ∧ (l.take k).contains n = false ∧ Has σ [(0, .slice A l.length c), (1, .int .i64 n), (5, .int .i64 k)] ∧ [] = L) (n := l.length) ⟨0, rfl, Nat.zero_le _, rfl, ⟨rfl, rfl, rfl, trivial⟩, rfl⟩ ?_
  rintro _ σ L ⟨k, rfl, hk, hno, hs, rfl⟩
  refine Cd.has hs ?_
  clear hs
  refine Cd.seq ?_
  refine Cd.seq ?_
  refine Cd.region ?_
  refine Ol.p mvi ?_
  refine Ol.p mvs ?_
  refine Ol.p (lens sl_L_int) ?_
  refine Ol.p lsi ?_
  refine Ol.nil ?_
  refine Cd.cond rfl (fun h => ?_) (fun h => ?_)   -- $9
  · have hlt := lt_of h
    obtain ⟨x, hx⟩ : ∃ x, l[k]? = some x := ⟨_, List.getElem?_eq_getElem hlt⟩
    refine Cd.skip ?_
    refine Cd.seq ?_
    refine Cd.block ?_   -- 1
    refine Cd.seq ?_
    refine Cd.region ?_
    refine Ol.p mvs ?_
    refine Ol.p mvi ?_
    refine Ol.p (ixn1 (ix := k) sl_L_int (Som.slc hl (by omega))) ?_
    refine Ol.p (ld (v := .int .i64 x) one_int (Rd.slc hl (ints_at hx))) ?_
    refine Ol.p mvi ?_
    refine Ol.p eqi ?_
    refine Ol.nil ?_
    refine Cd.cond rfl (fun h => ?_) (fun h => ?_)   -- $17
    · have h : decide (x = n) = true := h
      have hxn := of_decide_eq_true h
      have hc : l.contains n = true := List.contains_iff_mem.2 (by rw [← hxn]; exact List.mem_of_getElem? hx)
      rw [hc]
      refine Cd.seq ?_
      refine Cd.region ?_
      refine Ol.p asb ?_
      refine Ol.nil ?_
      exact Cd.ret ⟨.bool true, ret1 rfl rfl, [], .nil, rfl, rfl⟩
    have h : decide (x = n) = false := h
    have hxn := of_decide_eq_false h
    refine Cd.skip ?_
    refine Cd.region ?_
    refine Ol.p mvi ?_
    refine Ol.p addi ?_
    refine Ol.p asi ?_
    refine Ol.nil ?_
    refine ⟨l.length - (k + 1), by omega, k + 1, rfl, by omega, ?_, ⟨rfl, rfl, rfl, trivial⟩, rfl⟩
    rw [take_snoc_ hx]
    simp only [List.contains_eq_mem, List.mem_append, List.mem_singleton, decide_eq_false_iff_not] at hno ⊢
    rintro (h | h)
    · exact hno h
    · exact hxn h.symm
  have hke : k = l.length := by
    have := ge_of_ h
    omega
  rw [hke, List.take_length] at hno
  rw [hno]
  refine Cd.exit (id := 0) ?_
  refine Cd.seq ?_
  refine Cd.region ?_
  refine Ol.p asb ?_
  refine Ol.nil ?_
  exact Cd.ret ⟨.bool false, ret1 rfl rfl, [], .nil, rfl, rfl⟩
theorem ref11_has_nat {w : World} {A : Option Addr} {c : Nat} {l : List Nat} {n : Int} (hl : Reads w w.heap.size 1 A l.length (intsN l)) (hb : l.length ≤ 1024) : Ct Tryz.prog 75 #[.slice A l.length c, .int .i64 n] w (Is (.bool ((natL l).contains n))) := by
  have h := ref11_has_ct (c := c) (n := n) (l := natL l) (w := w) (A := A) (by rw [natL_len, natL_ints]; exact hl) (by rw [natL_len]; omega)
  rw [natL_len] at h
  exact h
set_option maxHeartbeats 2000000 in
theorem ref11_Over_ct {w : World} {f : RFun} {a b : Int} (hf : FunAt w w.heap.size f) (hfit : Fit f) : Ct Tryz.prog 37 #[f.val, .int .i64 a, .int .i64 b] w (Is (.bool (overF f.terms a b))) := by
  refine Ct.mk Tryz.func37 rfl rfl ?_
  refine Cd.seq ?_
  refine Cd.region ?_
  refine Ol.x bxg ?_
  rintro _ _ ⟨g3, rfl, rfl⟩
  refine Ol.p asb ?_
  refine Ol.nil ?_
  refine Cd.seq ?_
  cases h1 : (natL (reachedF f.terms [0] [])).contains b with
  | false =>
    refine Cd.region ?_
    refine Ol.p (ldw (cs := f.cells.toArray) ag_api_Func (i := 0) rfl rfl) ?_
    refine Ol.x (bsv (ints [0]) sl_L_int zr_int (by simp [ints, Value.cells])) ?_
    rintro _ _ ⟨g8, rfl, rfl⟩
    refine Ol.x (sp_call (vs := [f.val, .slice (some ⟨g8, 0, none⟩) 1 1, .slice none 0 0]) en_ref10_Reached (fun M w' hh => ref10_Reached_ct (fr := [0]) (nt := []) (hf.now hh) hfit (Reads.row hh (i := 0) rfl) Reads.none_ (by decide) (by decide))) ?_
    rintro _ _ ⟨_, rfl, A9, c9, rfl, rfl⟩
    refine Ol.p mvi ?_
    refine Ol.s (cl (v := .bool ((natL (reachedF f.terms [0] [])).contains b)) en_ref11_has (fun M w' hh => ref11_has_nat (Reads.row hh (i := 0) rfl) (reachedF_le _ _ _))) ?_
    refine Ol.p mvb ?_
    refine Ol.gn h1 ?_
    refine Ol.gn h1 ?_
    refine Ol.gn h1 ?_
    refine Ol.gn h1 ?_
    refine Ol.gn h1 ?_
    refine Ol.p (pkFb h1) ?_
    refine Ol.p mvb ?_
    refine Ol.gn rfl ?_
    refine Ol.gn rfl ?_
    refine Ol.gn rfl ?_
    refine Ol.gn rfl ?_
    refine Ol.gn rfl ?_
    refine Ol.gn rfl ?_
    refine Ol.gn rfl ?_
    refine Ol.gn rfl ?_
    refine Ol.p (pkFb rfl) ?_
    refine Ol.p asb ?_
    refine Ol.nil ?_
    exact Cd.ret ⟨.bool false, ret1 rfl rfl, [], .nil, by rw [over_ref, h1]; rfl, rfl⟩
  | true =>
    cases h2 : (natL (reachedF f.terms [0] [])).contains a with
    | false =>
      refine Cd.region ?_
      refine Ol.p (ldw (cs := f.cells.toArray) ag_api_Func (i := 0) rfl rfl) ?_
      refine Ol.x (bsv (ints [0]) sl_L_int zr_int (by simp [ints, Value.cells])) ?_
      rintro _ _ ⟨g8, rfl, rfl⟩
      refine Ol.x (sp_call (vs := [f.val, .slice (some ⟨g8, 0, none⟩) 1 1, .slice none 0 0]) en_ref10_Reached (fun M w' hh => ref10_Reached_ct (fr := [0]) (nt := []) (hf.now hh) hfit (Reads.row hh (i := 0) rfl) Reads.none_ (by decide) (by decide))) ?_
      rintro _ _ ⟨_, rfl, A9, c9, rfl, rfl⟩
      refine Ol.p mvi ?_
      refine Ol.s (cl (v := .bool ((natL (reachedF f.terms [0] [])).contains b)) en_ref11_has (fun M w' hh => ref11_has_nat (Reads.row hh (i := 0) rfl) (reachedF_le _ _ _))) ?_
      refine Ol.p mvb ?_
      refine Ol.gp h1 (ldw (cs := f.cells.toArray) ag_api_Func (i := 2) rfl rfl) ?_
      refine Ol.gx h1 (bsv (ints [0]) sl_L_int zr_int (by simp [ints, Value.cells])) ?_
      rintro _ _ ⟨g14, rfl, rfl⟩
      refine Ol.gx h1 (sp_call (vs := [f.val, .slice (some ⟨g14, 0, none⟩) 1 1, .slice none 0 0]) en_ref10_Reached (fun M w' hh => ref10_Reached_ct (fr := [0]) (nt := []) (hf.now hh) hfit (Reads.row hh (i := 0) rfl) Reads.none_ (by decide) (by decide))) ?_
      rintro _ _ ⟨_, rfl, A15, c15, rfl, rfl⟩
      refine Ol.gp h1 mvi ?_
      refine Ol.gs h1 (cl (v := .bool ((natL (reachedF f.terms [0] [])).contains a)) en_ref11_has (fun M w' hh => ref11_has_nat (Reads.row hh (i := 0) rfl) (reachedF_le _ _ _))) ?_
      refine Ol.p (pkTb h1) ?_
      refine Ol.p mvb ?_
      refine Ol.gn h2 ?_
      refine Ol.gn h2 ?_
      refine Ol.gn h2 ?_
      refine Ol.gn h2 ?_
      refine Ol.gn h2 ?_
      refine Ol.gn h2 ?_
      refine Ol.gn h2 ?_
      refine Ol.gn h2 ?_
      refine Ol.p (pkFb h2) ?_
      refine Ol.p asb ?_
      refine Ol.nil ?_
      exact Cd.ret ⟨.bool _, ret1 rfl rfl, [], .nil, by rw [over_ref, h1, h2]; rfl, rfl⟩
    | true =>
      refine Cd.region ?_
      refine Ol.p (ldw (cs := f.cells.toArray) ag_api_Func (i := 0) rfl rfl) ?_
      refine Ol.x (bsv (ints [0]) sl_L_int zr_int (by simp [ints, Value.cells])) ?_
      rintro _ _ ⟨g8, rfl, rfl⟩
      refine Ol.x (sp_call (vs := [f.val, .slice (some ⟨g8, 0, none⟩) 1 1, .slice none 0 0]) en_ref10_Reached (fun M w' hh => ref10_Reached_ct (fr := [0]) (nt := []) (hf.now hh) hfit (Reads.row hh (i := 0) rfl) Reads.none_ (by decide) (by decide))) ?_
      rintro _ _ ⟨_, rfl, A9, c9, rfl, rfl⟩
      refine Ol.p mvi ?_
      refine Ol.s (cl (v := .bool ((natL (reachedF f.terms [0] [])).contains b)) en_ref11_has (fun M w' hh => ref11_has_nat (Reads.row hh (i := 0) rfl) (reachedF_le _ _ _))) ?_
      refine Ol.p mvb ?_
      refine Ol.gp h1 (ldw (cs := f.cells.toArray) ag_api_Func (i := 2) rfl rfl) ?_
      refine Ol.gx h1 (bsv (ints [0]) sl_L_int zr_int (by simp [ints, Value.cells])) ?_
      rintro _ _ ⟨g14, rfl, rfl⟩
      refine Ol.gx h1 (sp_call (vs := [f.val, .slice (some ⟨g14, 0, none⟩) 1 1, .slice none 0 0]) en_ref10_Reached (fun M w' hh => ref10_Reached_ct (fr := [0]) (nt := []) (hf.now hh) hfit (Reads.row hh (i := 0) rfl) Reads.none_ (by decide) (by decide))) ?_
      rintro _ _ ⟨_, rfl, A15, c15, rfl, rfl⟩
      refine Ol.gp h1 mvi ?_
      refine Ol.gs h1 (cl (v := .bool ((natL (reachedF f.terms [0] [])).contains a)) en_ref11_has (fun M w' hh => ref11_has_nat (Reads.row hh (i := 0) rfl) (reachedF_le _ _ _))) ?_
      refine Ol.p (pkTb h1) ?_
      refine Ol.p mvb ?_
      refine Ol.gp h2 (ldw (cs := f.cells.toArray) ag_api_Func (i := 4) rfl rfl) ?_
      refine Ol.gx h2 (bsv (ints [0]) sl_L_int zr_int (by simp [ints, Value.cells])) ?_
      rintro _ _ ⟨g21, rfl, rfl⟩
      refine Ol.gp h2 mvi ?_
      refine Ol.gx h2 (bsv (ints [a]) sl_L_int zr_int (by simp [ints, Value.cells])) ?_
      rintro _ _ ⟨g23, rfl, rfl⟩
      refine Ol.gx h2 (sp_call (vs := [f.val, .slice (some ⟨g21, 0, none⟩) 1 1, .slice (some ⟨g23, 0, none⟩) 1 1]) en_ref10_Reached (fun M w' hh => ref10_Reached_ct (fr := [0]) (nt := [a]) (hf.now hh) hfit (Reads.row hh (i := 1) rfl) (Reads.row hh (i := 0) rfl) (by decide) (by simp))) ?_
      rintro _ _ ⟨_, rfl, A24, c24, rfl, rfl⟩
      refine Ol.gp h2 mvi ?_
      refine Ol.gs h2 (cl (v := .bool ((natL (reachedF f.terms [0] [a])).contains b)) en_ref11_has (fun M w' hh => ref11_has_nat (Reads.row hh (i := 0) rfl) (reachedF_le _ _ _))) ?_
      refine Ol.gp h2 noti ?_
      refine Ol.p (pkTb h2) ?_
      refine Ol.p asb ?_
      refine Ol.nil ?_
      exact Cd.ret ⟨.bool _, ret1 rfl rfl, [], .nil, by rw [over_ref, h1, h2]; rfl, rfl⟩
end
/-- The blocks below one. -/
noncomputable def belowN (ts : List Tm) (a : Int) (k : Nat) : List Nat := (List.range k).filter fun x : Nat => overF ts a (x : Int)
theorem belowN_succ (ts : List Tm) (a : Int) (k : Nat) : belowN ts a (k + 1) = belowN ts a k ++ (if overF ts a (k : Int) = true then [k] else []) := by
  unfold belowN
  rw [List.range_succ, List.filter_append]
  congr 1
  by_cases h : overF ts a (k : Int) = true <;> simp [List.filter, h]
theorem belowN_no {ts : List Tm} (hc : closed ts = false) (a : Int) (k : Nat) : belowN ts a k = [] := by
  unfold belowN
  rw [List.filter_eq_nil_iff]
  intro x _
  rw [over_no hc]
  simp
theorem belowN_le (ts : List Tm) (a : Int) (k : Nat) : (belowN ts a k).length ≤ k := Nat.le_trans (List.length_filter_le _ _) (by simp)
theorem ints_cat (a b : List Int) : ints (a ++ b) = ints a ++ ints b := by simp [ints]
theorem natL_app (a b : List Nat) : natL (a ++ b) = natL a ++ natL b := by simp [natL]
section
set_option maxHeartbeats 2000000 in
theorem ref11_Below_ct {w : World} {f : RFun} {a : Int} (hf : FunAt w w.heap.size f) (hfit : Fit f) (hbl : f.blocks.length ≤ 500) : Ct Tryz.prog 39 #[f.val, .int .i64 a] w (NewL 3 1 (belowN f.terms a f.blocks.length).length (intsN (belowN f.terms a f.blocks.length))) := by
  refine Ct.mk Tryz.func39 rfl rfl ?_
  refine Cd.seq ?_
  refine Cd.region ?_
  refine Ol.x bxg ?_
  rintro _ _ ⟨g2, rfl, rfl⟩
  refine Ol.p ass ?_
  refine Ol.nil ?_
  refine Cd.seq ?_
  refine Cd.region ?_
  refine Ol.p ass ?_
  refine Ol.nil ?_
  refine Cd.nr 3 1 ?_
  refine Cd.seq ?_
  refine Cd.seq ?_
  refine Cd.region ?_
  refine Ol.p asi ?_
  refine Ol.nil ?_
  refine Cd.block ?_   -- 0
  refine Cd.loop (fun m σ L => ∃ (k : Nat) (A : Option Addr) (c n : Nat), m = f.blocks.length - k ∧ k ≤ f.blocks.length ∧ n = (belowN f.terms a k).length ∧ Has σ [(1, .int .i64 a), (2, .pointer (some ⟨g2, 0, none⟩)), (5, .slice A n c), (6, .int .i64 k)] ∧ [row (.slice A n c) 3 1 n (intsN (belowN f.terms a k)), blk g2 (.cells f.cells.toArray 25)] = L) (n := f.blocks.length) ⟨0, none, 0, 0, rfl, Nat.zero_le _, rfl, ⟨rfl, rfl, rfl, rfl, trivial⟩, rfl⟩ ?_
  rintro _ σ L ⟨k, A, c, n, rfl, hk, hn, hs, rfl⟩
  refine Cd.has hs ?_
  clear hs
  have hnk := belowN_le f.terms a k
  rw [← hn] at hnk
  refine Cd.seq ?_
  refine Cd.seq ?_
  cases hcl : closed f.terms with
  | false =>
    refine Cd.region ?_
    refine Ol.p (ldw (cs := f.cells.toArray) ag_api_Func (i := 1) rfl rfl) ?_
    refine Ol.s (cl (v := .bool (closed f.terms)) en_ref10_Closed (fun M w' hh => ref10_Closed_ct (hf.now hh) hfit)) ?_
    refine Ol.p mvb ?_
    refine Ol.gn hcl ?_
    refine Ol.gn hcl ?_
    refine Ol.gn hcl ?_
    refine Ol.gn hcl ?_
    refine Ol.gn hcl ?_
    refine Ol.p (pkFb hcl) ?_
    refine Ol.nil ?_
    refine Cd.cond rfl (fun h => nomatch h) (fun h => ?_)   -- $15
    refine Cd.exit (id := 0) ?_
    refine Cd.seq ?_
    refine Cd.region ?_
    refine Ol.p mvs ?_
    refine Ol.p ass ?_
    refine Ol.nil ?_
    rw [belowN_no hcl] at hn ⊢
    rw [belowN_no hcl]
    subst hn
    exact Cd.ret ⟨.slice A 0 c, ret1 rfl rfl, _, .sub (.cons_cons _ (List.nil_sublist _)), A, c, rfl, rfl⟩
  | true =>
    refine Cd.region ?_
    refine Ol.p (ldw (cs := f.cells.toArray) ag_api_Func (i := 1) rfl rfl) ?_
    refine Ol.s (cl (v := .bool (closed f.terms)) en_ref10_Closed (fun M w' hh => ref10_Closed_ct (hf.now hh) hfit)) ?_
    refine Ol.p mvb ?_
    refine Ol.gp hcl mvi ?_
    refine Ol.gp hcl (fdl fd_api_Func_1) ?_
    refine Ol.gp hcl (ld (v := .slice f.bA f.blocks.length f.bC) one_L_api_Block (Rd.blk (i := 1) rfl rfl)) ?_
    refine Ol.gp hcl (lens sl_L_api_Block) ?_
    refine Ol.gp hcl lsi ?_
    refine Ol.p (pkTb hcl) ?_
    refine Ol.nil ?_
    refine Cd.cond rfl (fun h => ?_) (fun h => ?_)   -- $15
    · have hlt : k < f.blocks.length := lt_of h
      refine Cd.skip ?_
      refine Cd.mid (fun σ' L' => ∃ (A' : Option Addr) (c' n' : Nat), n' = (belowN f.terms a (k + 1)).length ∧ Has σ' [(1, .int .i64 a), (2, .pointer (some ⟨g2, 0, none⟩)), (5, .slice A' n' c'), (6, .int .i64 k)] ∧ [row (.slice A' n' c') 3 1 n' (intsN (belowN f.terms a (k + 1))), blk g2 (.cells f.cells.toArray 25)] = L') ?_ ?_
      · skip
        refine Cd.block ?_   -- 1
        refine Cd.seq ?_
        refine Cd.region ?_
        refine Ol.p (ldw (cs := f.cells.toArray) ag_api_Func (i := 1) rfl rfl) ?_
        refine Ol.p mvi ?_
        refine Ol.p mvi ?_
        refine Ol.s (cl (v := .bool (overF f.terms a (k : Int))) en_ref11_Over (fun M w' hh => ref11_Over_ct (hf.now hh) hfit)) ?_
        refine Ol.nil ?_
        refine Cd.cond rfl (fun h => ?_) (fun h => ?_)   -- $21
        · have h : overF f.terms a (k : Int) = true := h
          refine Cd.region ?_
          refine Ol.p mvs ?_
          refine Ol.p mvi ?_
          refine Ol.x (bsv (ints [(k : Int)]) sl_L_int zr_int (by simp [ints, Value.cells])) ?_
          rintro _ _ ⟨g24, rfl, rfl⟩
          refine Ol.x (apn (i := 1) (n := n) (m := 1) sl_L_int zr_int rfl (by decide) rfl (Src.row (i := 0) rfl rfl) (by intro v hv; simp [ints] at hv; subst hv; rfl) (by unfold maxLen; omega) (by omega)) ?_
          rintro _ _ ⟨A2, c2, rfl, rfl⟩
          refine Ol.p ass ?_
          refine Ol.keep (.sub (.cons _ (List.Sublist.refl _))) ?_
          refine Ol.nil ?_
          refine ⟨A2, c2, n + 1, ?_, ⟨rfl, rfl, rfl, rfl, trivial⟩, ?_⟩
          · rw [belowN_succ, if_pos h, List.length_append, ← hn]; rfl
          · rw [belowN_succ, if_pos h, ← natL_ints, natL_app, ints_cat, natL_ints]
            rfl
        have h : overF f.terms a (k : Int) = false := h
        refine Cd.skip ?_
        refine ⟨A, c, n, ?_, ⟨rfl, rfl, rfl, rfl, trivial⟩, ?_⟩
        · rw [belowN_succ, if_neg (by rw [h]; simp), List.append_nil]; exact hn
        · rw [belowN_succ, if_neg (by rw [h]; simp), List.append_nil]
      rintro σ' _ ⟨A', c', n', hn', hs', rfl⟩
      refine Cd.has hs' ?_
      refine Cd.region ?_
      refine Ol.p mvi ?_
      refine Ol.p addi ?_
      refine Ol.p asi ?_
      refine Ol.nil ?_
      exact ⟨f.blocks.length - (k + 1), by omega, k + 1, A', c', n', rfl, by omega, hn', ⟨rfl, rfl, rfl, rfl, trivial⟩, rfl⟩
    have hke : k = f.blocks.length := by
      have := ge_of_ h
      omega
    refine Cd.exit (id := 0) ?_
    refine Cd.seq ?_
    refine Cd.region ?_
    refine Ol.p mvs ?_
    refine Ol.p ass ?_
    refine Ol.nil ?_
    rw [hke] at hn ⊢
    rw [← hn]
    exact Cd.ret ⟨.slice A n c, ret1 rfl rfl, _, .sub (.cons_cons _ (List.nil_sublist _)), A, c, rfl, rfl⟩
end
section
set_option maxHeartbeats 2000000 in
theorem ref11_last_ct {w : World} {A : Option Addr} {c n : Nat} {hd : List Value} {F : Nat → Nat → Bool} {a b : Nat} {nt : Int} (hA : Reads w w.heap.size 1 A n hd) (hrow : ∀ d, d < n → ∃ X cx, hd[d]? = some (.slice X n cx) ∧ Reads w w.heap.size 1 X n (boolsL n (F d))) (hn : n ≤ 500) (ha : a < n) (hb : b < n) :
    Ct Tryz.prog 73 #[.slice A n c, .int .i64 a, .int .i64 b, .int .i64 nt] w (Is (.int .i64 (lastF F a b nt n))) := by
  refine Ct.mk Tryz.func73 rfl rfl ?_
  refine Cd.seq ?_
  refine Cd.region ?_
  refine Ol.p asi ?_
  refine Ol.nil ?_
  refine Cd.seq ?_
  refine Cd.region ?_
  refine Ol.p asi ?_
  refine Ol.nil ?_
  refine Cd.seq ?_
  refine Cd.seq ?_
  refine Cd.region ?_
  refine Ol.p asi ?_
  refine Ol.nil ?_
  refine Cd.block ?_   -- 0
  refine Cd.loop (fun m σ L => ∃ k : Nat, m = n - k ∧ k ≤ n ∧ Has σ [(0, .slice A n c), (1, .int .i64 a), (2, .int .i64 b), (3, .int .i64 nt), (9, .int .i64 (lastF F a b nt k)), (10, .int .i64 k)] ∧ [] = L) (n := n) ⟨0, rfl, Nat.zero_le _, ⟨rfl, rfl, rfl, rfl, rfl, rfl, trivial⟩, rfl⟩ ?_
  rintro _ σ L ⟨k, rfl, hk, hs, rfl⟩
  refine Cd.has hs ?_
  clear hs
  have hrng := lastF_rng F a b nt k
  have hnext : lastF F a b nt (k + 1) = bif (!decide ((k : Int) = nt)) && (F k a && (F k b && (decide (lastF F a b nt k < 0) || F (lastF F a b nt k).toNat k))) then (k : Int) else lastF F a b nt k := rfl
  obtain ⟨Bs, hBs⟩ : ∃ Bs, Bs = lastF F a b nt k := ⟨_, rfl⟩
  rw [← hBs] at hrng hnext ⊢
  refine Cd.seq ?_
  refine Cd.seq ?_
  refine Cd.region ?_
  refine Ol.p mvi ?_
  refine Ol.p mvs ?_
  refine Ol.p (lens sl_L_L_bool) ?_
  refine Ol.p lsi ?_
  refine Ol.nil ?_
  refine Cd.cond rfl (fun h => ?_) (fun h => ?_)   -- $14
  · have hlt : k < n := lt_of h
    obtain ⟨X, cx, hX, hXr⟩ := hrow k hlt
    obtain ⟨C, hC⟩ : ∃ C, C = ((!decide ((k : Int) = nt)) && (F k a && (F k b && (decide (Bs < 0) || F Bs.toNat k)))) := ⟨_, rfl⟩
    rw [← hC] at hnext
    refine Cd.skip ?_
    refine Cd.mid (fun σ' L' => Has σ' [(0, .slice A n c), (1, .int .i64 a), (2, .int .i64 b), (3, .int .i64 nt), (9, .int .i64 (lastF F a b nt (k + 1))), (10, .int .i64 k)] ∧ [] = L') ?_ ?_
    · skip
      refine Cd.block ?_   -- 1
      refine Cd.mid (fun σ' L' => Has σ' [(0, .slice A n c), (1, .int .i64 a), (2, .int .i64 b), (3, .int .i64 nt), (9, .int .i64 Bs), (10, .int .i64 k), (50, .bool C)] ∧ [] = L') ?_ ?_
      · cases h1 : !decide ((k : Int) = nt) with
        | false =>
          refine Cd.region ?_
          refine Ol.p mvi ?_
          refine Ol.p mvi ?_
          refine Ol.p nei ?_
          refine Ol.p mvb ?_
          refine Ol.gn h1 ?_
          refine Ol.gn h1 ?_
          refine Ol.gn h1 ?_
          refine Ol.gn h1 ?_
          refine Ol.gn h1 ?_
          refine Ol.gn h1 ?_
          refine Ol.gn h1 ?_
          refine Ol.p (pkFb h1) ?_
          refine Ol.p mvb ?_
          refine Ol.gn rfl ?_
          refine Ol.gn rfl ?_
          refine Ol.gn rfl ?_
          refine Ol.gn rfl ?_
          refine Ol.gn rfl ?_
          refine Ol.gn rfl ?_
          refine Ol.gn rfl ?_
          refine Ol.p (pkFb rfl) ?_
          refine Ol.p mvb ?_
          refine Ol.gn rfl ?_
          refine Ol.gn rfl ?_
          refine Ol.gn rfl ?_
          refine Ol.gu ?_
          refine Ol.gu ?_
          refine Ol.gu ?_
          refine Ol.gu ?_
          refine Ol.gu ?_
          refine Ol.gu ?_
          refine Ol.gu ?_
          refine Ol.gn rfl ?_
          refine Ol.p (pkFb rfl) ?_
          refine Ol.nil ?_
          exact ⟨⟨rfl, rfl, rfl, rfl, rfl, rfl, congrArg Value.bool (by rw [hC, h1]; rfl), trivial⟩, rfl⟩
        | true =>
          cases h2 : F k a with
          | false =>
            refine Cd.region ?_
            refine Ol.p mvi ?_
            refine Ol.p mvi ?_
            refine Ol.p nei ?_
            refine Ol.p mvb ?_
            refine Ol.gp h1 mvs ?_
            refine Ol.gp h1 mvi ?_
            refine Ol.gp h1 (ixn1 (ix := k) sl_L_L_bool (Som.slc hA (by omega))) ?_
            refine Ol.gp h1 (ld (v := .slice X n cx) one_L_bool (Rd.slc hA hX)) ?_
            refine Ol.gp h1 mvi ?_
            refine Ol.gp h1 (ixn1 (ix := a) sl_L_bool (Som.slc hXr (by omega))) ?_
            refine Ol.gp h1 (ld (v := .bool (F k a)) one_bool (Rd.slc hXr (boolsL_get ha))) ?_
            refine Ol.p (pkTb h1) ?_
            refine Ol.p mvb ?_
            refine Ol.gn h2 ?_
            refine Ol.gn h2 ?_
            refine Ol.gn h2 ?_
            refine Ol.gn h2 ?_
            refine Ol.gn h2 ?_
            refine Ol.gn h2 ?_
            refine Ol.gn h2 ?_
            refine Ol.p (pkFb h2) ?_
            refine Ol.p mvb ?_
            refine Ol.gn rfl ?_
            refine Ol.gn rfl ?_
            refine Ol.gn rfl ?_
            refine Ol.gu ?_
            refine Ol.gu ?_
            refine Ol.gu ?_
            refine Ol.gu ?_
            refine Ol.gu ?_
            refine Ol.gu ?_
            refine Ol.gu ?_
            refine Ol.gn rfl ?_
            refine Ol.p (pkFb rfl) ?_
            refine Ol.nil ?_
            exact ⟨⟨rfl, rfl, rfl, rfl, rfl, rfl, congrArg Value.bool (by rw [hC, h1, h2]; rfl), trivial⟩, rfl⟩
          | true =>
            cases h3 : F k b with
            | false =>
              refine Cd.region ?_
              refine Ol.p mvi ?_
              refine Ol.p mvi ?_
              refine Ol.p nei ?_
              refine Ol.p mvb ?_
              refine Ol.gp h1 mvs ?_
              refine Ol.gp h1 mvi ?_
              refine Ol.gp h1 (ixn1 (ix := k) sl_L_L_bool (Som.slc hA (by omega))) ?_
              refine Ol.gp h1 (ld (v := .slice X n cx) one_L_bool (Rd.slc hA hX)) ?_
              refine Ol.gp h1 mvi ?_
              refine Ol.gp h1 (ixn1 (ix := a) sl_L_bool (Som.slc hXr (by omega))) ?_
              refine Ol.gp h1 (ld (v := .bool (F k a)) one_bool (Rd.slc hXr (boolsL_get ha))) ?_
              refine Ol.p (pkTb h1) ?_
              refine Ol.p mvb ?_
              refine Ol.gp h2 mvs ?_
              refine Ol.gp h2 mvi ?_
              refine Ol.gp h2 (ixn1 (ix := k) sl_L_L_bool (Som.slc hA (by omega))) ?_
              refine Ol.gp h2 (ld (v := .slice X n cx) one_L_bool (Rd.slc hA hX)) ?_
              refine Ol.gp h2 mvi ?_
              refine Ol.gp h2 (ixn1 (ix := b) sl_L_bool (Som.slc hXr (by omega))) ?_
              refine Ol.gp h2 (ld (v := .bool (F k b)) one_bool (Rd.slc hXr (boolsL_get hb))) ?_
              refine Ol.p (pkTb h2) ?_
              refine Ol.p mvb ?_
              refine Ol.gn h3 ?_
              refine Ol.gn h3 ?_
              refine Ol.gn h3 ?_
              refine Ol.gu ?_
              refine Ol.gu ?_
              refine Ol.gu ?_
              refine Ol.gu ?_
              refine Ol.gu ?_
              refine Ol.gu ?_
              refine Ol.gu ?_
              refine Ol.gn h3 ?_
              refine Ol.p (pkFb h3) ?_
              refine Ol.nil ?_
              exact ⟨⟨rfl, rfl, rfl, rfl, rfl, rfl, congrArg Value.bool (by rw [hC, h1, h2, h3]; rfl), trivial⟩, rfl⟩
            | true =>
              cases h4 : decide (Bs < 0) with
              | true =>
                refine Cd.region ?_
                refine Ol.p mvi ?_
                refine Ol.p mvi ?_
                refine Ol.p nei ?_
                refine Ol.p mvb ?_
                refine Ol.gp h1 mvs ?_
                refine Ol.gp h1 mvi ?_
                refine Ol.gp h1 (ixn1 (ix := k) sl_L_L_bool (Som.slc hA (by omega))) ?_
                refine Ol.gp h1 (ld (v := .slice X n cx) one_L_bool (Rd.slc hA hX)) ?_
                refine Ol.gp h1 mvi ?_
                refine Ol.gp h1 (ixn1 (ix := a) sl_L_bool (Som.slc hXr (by omega))) ?_
                refine Ol.gp h1 (ld (v := .bool (F k a)) one_bool (Rd.slc hXr (boolsL_get ha))) ?_
                refine Ol.p (pkTb h1) ?_
                refine Ol.p mvb ?_
                refine Ol.gp h2 mvs ?_
                refine Ol.gp h2 mvi ?_
                refine Ol.gp h2 (ixn1 (ix := k) sl_L_L_bool (Som.slc hA (by omega))) ?_
                refine Ol.gp h2 (ld (v := .slice X n cx) one_L_bool (Rd.slc hA hX)) ?_
                refine Ol.gp h2 mvi ?_
                refine Ol.gp h2 (ixn1 (ix := b) sl_L_bool (Som.slc hXr (by omega))) ?_
                refine Ol.gp h2 (ld (v := .bool (F k b)) one_bool (Rd.slc hXr (boolsL_get hb))) ?_
                refine Ol.p (pkTb h2) ?_
                refine Ol.p mvb ?_
                refine Ol.gp h3 mvi ?_
                refine Ol.gp h3 lsi ?_
                refine Ol.gp h3 mvb ?_
                refine Ol.gn h4 ?_
                refine Ol.gn h4 ?_
                refine Ol.gn h4 ?_
                refine Ol.gn h4 ?_
                refine Ol.gn h4 ?_
                refine Ol.gn h4 ?_
                refine Ol.gn h4 ?_
                refine Ol.gp h3 (pkTb h4) ?_
                refine Ol.p (pkTb h3) ?_
                refine Ol.nil ?_
                exact ⟨⟨rfl, rfl, rfl, rfl, rfl, rfl, congrArg Value.bool (by rw [hC, h1, h2, h3, h4]; rfl), trivial⟩, rfl⟩
              | false =>
                have hB0 : 0 ≤ Bs := by
                  have := of_decide_eq_false h4
                  omega
                have hBn : ((Bs.toNat : Nat) : Int) = Bs := by omega
                have hBl : Bs.toNat < n := by omega
                obtain ⟨Y, cy, hY, hYr⟩ := hrow Bs.toNat hBl
                refine Cd.region ?_
                refine Ol.p mvi ?_
                refine Ol.p mvi ?_
                refine Ol.p nei ?_
                refine Ol.p mvb ?_
                refine Ol.gp h1 mvs ?_
                refine Ol.gp h1 mvi ?_
                refine Ol.gp h1 (ixn1 (ix := k) sl_L_L_bool (Som.slc hA (by omega))) ?_
                refine Ol.gp h1 (ld (v := .slice X n cx) one_L_bool (Rd.slc hA hX)) ?_
                refine Ol.gp h1 mvi ?_
                refine Ol.gp h1 (ixn1 (ix := a) sl_L_bool (Som.slc hXr (by omega))) ?_
                refine Ol.gp h1 (ld (v := .bool (F k a)) one_bool (Rd.slc hXr (boolsL_get ha))) ?_
                refine Ol.p (pkTb h1) ?_
                refine Ol.p mvb ?_
                refine Ol.gp h2 mvs ?_
                refine Ol.gp h2 mvi ?_
                refine Ol.gp h2 (ixn1 (ix := k) sl_L_L_bool (Som.slc hA (by omega))) ?_
                refine Ol.gp h2 (ld (v := .slice X n cx) one_L_bool (Rd.slc hA hX)) ?_
                refine Ol.gp h2 mvi ?_
                refine Ol.gp h2 (ixn1 (ix := b) sl_L_bool (Som.slc hXr (by omega))) ?_
                refine Ol.gp h2 (ld (v := .bool (F k b)) one_bool (Rd.slc hXr (boolsL_get hb))) ?_
                refine Ol.p (pkTb h2) ?_
                refine Ol.p mvb ?_
                refine Ol.gp h3 mvi ?_
                refine Ol.gp h3 lsi ?_
                refine Ol.gp h3 mvb ?_
                refine Ol.gp h4 mvs ?_
                refine Ol.gp h4 mvi ?_
                refine Ol.gp h4 (ixn1 (ix := Bs.toNat) sl_L_L_bool (Som.slc hA (by omega)) (hy := congrArg (Value.int .i64) hBn.symm)) ?_
                refine Ol.gp h4 (ld (v := .slice Y n cy) one_L_bool (Rd.slc hA hY)) ?_
                refine Ol.gp h4 mvi ?_
                refine Ol.gp h4 (ixn1 (ix := k) sl_L_bool (Som.slc hYr (by omega))) ?_
                refine Ol.gp h4 (ld (v := .bool (F Bs.toNat k)) one_bool (Rd.slc hYr (boolsL_get hlt))) ?_
                refine Ol.gp h3 (pkFb h4) ?_
                refine Ol.p (pkTb h3) ?_
                refine Ol.nil ?_
                exact ⟨⟨rfl, rfl, rfl, rfl, rfl, rfl, congrArg Value.bool (by rw [hC, h1, h2, h3, h4]; rfl), trivial⟩, rfl⟩
      rintro σ' _ ⟨hs', rfl⟩
      refine Cd.has hs' ?_
      clear hs'
      rw [hnext]
      refine Cd.cond rfl (fun h => ?_) (fun h => ?_)   -- $50
      · have h : C = true := h
        refine Cd.region ?_
        refine Ol.p mvi ?_
        refine Ol.p asi ?_
        refine Ol.nil ?_
        rw [h]
        exact ⟨⟨rfl, rfl, rfl, rfl, rfl, rfl, trivial⟩, rfl⟩
      have h : C = false := h
      refine Cd.skip ?_
      rw [h]
      exact ⟨⟨rfl, rfl, rfl, rfl, rfl, rfl, trivial⟩, rfl⟩
    rintro σ' _ ⟨hs', rfl⟩
    refine Cd.has hs' ?_
    refine Cd.region ?_
    refine Ol.p mvi ?_
    refine Ol.p addi ?_
    refine Ol.p asi ?_
    refine Ol.nil ?_
    exact ⟨n - (k + 1), by omega, k + 1, rfl, by omega, ⟨rfl, rfl, rfl, rfl, rfl, rfl, trivial⟩, rfl⟩
  have hke : k = n := by
    have := ge_of_ h
    omega
  refine Cd.exit (id := 0) ?_
  refine Cd.seq ?_
  refine Cd.region ?_
  refine Ol.p mvi ?_
  refine Ol.p asi ?_
  refine Ol.nil ?_
  exact Cd.ret ⟨.int .i64 Bs, ret1 rfl rfl, [], .nil, by rw [hBs, hke], rfl⟩
end
end Go.Proofs.YtkefmjhagmacfaaGreatDoor

/- The law 11: DomWay, walked. -/
namespace Go.Proofs.YtkefmjhagmacfaaGreatDoor
set_option linter.unusedVariables false
open Go Go.RowKit
set_option maxRecDepth 100000

theorem meet_ex {G : Gra} {U : Nat → Int} (ht : Tr G U) : ∀ (n a b : Nat), G.pl a + G.pl b < n → Pr U a → Pr U b → ∃ m, Meet U a b m
  | 0, a, b, h, _, _ => by omega
  | n + 1, a, b, h, ha, hb => by
    by_cases e : a = b
    · subst e; exact ⟨a, Meet.same⟩
    · rcases Nat.lt_trichotomy (G.pl a) (G.pl b) with hl | hl | hl
      · have h0 : 0 ≤ U b := by
          rcases hb with e | e
          · rw [e, G.pl0] at hl; omega
          · exact e
        have hup := ht.up b h0
        obtain ⟨m, hm⟩ := meet_ex ht n a (U b).toNat (by have := hup.2.2.1; omega) ha hup.2.2.2
        exact ⟨m, Meet.right ht h0 hl hm⟩
      · exact absurd (G.inj a b (ha.reached ht) (hb.reached ht) hl) e
      · have h0 : 0 ≤ U a := by
          rcases ha with e | e
          · rw [e, G.pl0] at hl; omega
          · exact e
        have hup := ht.up a h0
        obtain ⟨m, hm⟩ := meet_ex ht n (U a).toNat b (by have := hup.2.2.1; omega) hup.2.2.2 hb
        exact ⟨m, Meet.left ht h0 hl hm⟩
section
theorem overF_upw {ts : List Tm} (hc : closed ts = true) (hd : DomU ts (domL ts)) {a b : Int} : overF ts a b = true ↔ ∃ x y : Nat, a = (x : Int) ∧ b = (y : Int) ∧ y ∈ orderF ts ∧ Upw (asU (domL ts)) x y := by
  rw [overF_iff hc hd]
  constructor
  · rintro ⟨x, y, h1, h2, h3, h4⟩
    exact ⟨x, y, h1, h2, h3, ((hd.2 hc).dom x y h3).2 h4⟩
  · rintro ⟨x, y, h1, h2, h3, h4⟩
    exact ⟨x, y, h1, h2, h3, ((hd.2 hc).dom x y h3).1 h4⟩
theorem both_spec {ts : List Tm} (hc : closed ts = true) (hd : DomU ts (domL ts)) (a b : Int) : (bothF ts a b = -1 ∧ ∀ d, ¬ (overF ts d a = true ∧ overF ts d b = true)) ∨
    ∃ m : Nat, bothF ts a b = (m : Int) ∧ m < ts.length ∧ overF ts (m : Int) a = true ∧ overF ts (m : Int) b = true ∧ ∀ d, overF ts d a = true → overF ts d b = true → overF ts d (m : Int) = true := by
  have F := hd.2 hc
  cases hin : inP (plL ts) a && inP (plL ts) b with
  | false =>
    left
    unfold bothF
    rw [hin, Bool.and_false]
    refine ⟨rfl, ?_⟩
    rintro d ⟨h1, h2⟩
    rw [overF_upw hc hd] at h1 h2
    obtain ⟨_, y, _, hy, hyo, _⟩ := h1
    obtain ⟨_, z, _, hz, hzo, _⟩ := h2
    rw [(inP_iff hc).2 ⟨y, hy, hyo⟩, (inP_iff hc).2 ⟨z, hz, hzo⟩] at hin
    cases hin
  | true =>
    right
    obtain ⟨x, rfl, hxo⟩ := (inP_iff hc).1 (Bool.and_eq_true_iff.1 hin).1
    obtain ⟨y, rfl, hyo⟩ := (inP_iff hc).1 (Bool.and_eq_true_iff.1 hin).2
    obtain ⟨m, hm⟩ := meet_ex F.tr _ x y (Nat.lt_succ_self _) (F.all x hxo) (F.all y hyo)
    have hmo : m ∈ orderF ts := (hm.1.pr F.tr (F.all x hxo)).reached F.tr
    refine ⟨m, ?_, order_lt hc hmo, (overF_upw hc hd).2 ⟨m, x, rfl, rfl, hxo, hm.1⟩, (overF_upw hc hd).2 ⟨m, y, rfl, rfl, hyo, hm.2.1⟩, fun d h1 h2 => ?_⟩
    · unfold bothF
      rw [hc, hin, Bool.true_and, cond_true, Int.toNat_natCast, Int.toNat_natCast, hm.eps F.tr (F.all x hxo)]
    · rw [overF_upw hc hd] at h1 h2 ⊢
      obtain ⟨d1, x1, e1, e2, _, h3⟩ := h1
      obtain ⟨d2, y1, e3, e4, _, h4⟩ := h2
      have i1 : x1 = x := by omega
      have i2 : y1 = y := by omega
      have i3 : d2 = d1 := by omega
      subst i1 i2 i3
      exact ⟨d2, m, e1, rfl, hmo, hm.2.2 d2 h3 h4⟩
end
end Go.Proofs.YtkefmjhagmacfaaGreatDoor

/- Reference 11: dominators, walked: rows, Of, Back, Both. -/
namespace Go.Proofs.YtkefmjhagmacfaaGreatDoor
set_option linter.unusedVariables false
set_option linter.unusedSimpArgs false
open Go Go.RowKit
set_option maxRecDepth 100000
/-! ### A table of rows, newest first -/
def hdB (n : Nat) : List Nat → List Value
  | [] => []
  | g :: gs => hdB n gs ++ [.slice (some ⟨g, 0, none⟩) n n]
def rwB (e : TypeId) (n : Nat) (F : Nat → Nat → Bool) : List Nat → List Res
  | [] => []
  | g :: gs => row (.slice (some ⟨g, 0, none⟩) n n) e 1 n (boolsL n (F gs.length)) :: rwB e n F gs
theorem hdB_len (n : Nat) : ∀ gs : List Nat, (hdB n gs).length = gs.length
  | [] => rfl
  | g :: gs => by
    show (hdB n gs ++ [_]).length = gs.length + 1
    rw [List.length_append, hdB_len n gs]; rfl
theorem rwB_get {e : TypeId} {n : Nat} {F : Nat → Nat → Bool} : ∀ {gs : List Nat} {d : Nat}, d < gs.length → ∃ g i : Nat, (hdB n gs)[d]? = some (.slice (some ⟨g, 0, none⟩) n n) ∧ (rwB e n F gs)[i]? = some (row (.slice (some ⟨g, 0, none⟩) n n) e 1 n (boolsL n (F d)))
  | [], d, h => by simp at h
  | g :: gs, d, h => by
    have hl := hdB_len n gs
    rcases Nat.lt_or_ge d gs.length with h1 | h1
    · obtain ⟨g', i, h2, h3⟩ := rwB_get (e := e) (n := n) (F := F) h1
      refine ⟨g', i + 1, ?_, ?_⟩
      · show (hdB n gs ++ [_])[d]? = _
        rw [List.getElem?_append_left (by omega)]
        exact h2
      · show (row _ _ _ _ _ :: rwB e n F gs)[i + 1]? = _
        rw [List.getElem?_cons_succ]
        exact h3
    · have hd : d = gs.length := by simp at h; omega
      refine ⟨g, 0, ?_, ?_⟩
      · show (hdB n gs ++ [_])[d]? = _
        rw [List.getElem?_append_right (by omega), hl, hd, Nat.sub_self]
        rfl
      · rw [hd]; rfl
def RowsP (e1 e : TypeId) (n : Nat) (F : Nat → Nat → Bool) : Value → List Res → Prop := fun v L => ∃ (A : Option Addr) (c : Nat) (gs : List Nat), gs.length = n ∧ v = .slice A n c ∧ L = row (.slice A n c) e1 1 n (hdB n gs) :: rwB e n F gs
theorem rows_read {w0 w : World} {B n i0 : Nat} {e : TypeId} {F : Nat → Nat → Bool} {gs : List Nat} {M L : List Res} (hg : gs.length = n) (hh : Hp w0 B (M ++ L) w) (hL : L.drop i0 = rwB e n F gs) : ∀ d, d < n → ∃ X cx, (hdB n gs)[d]? = some (.slice X n cx) ∧ Reads w w.heap.size 1 X n (boolsL n (F d)) := fun d hd => by
  obtain ⟨g, i, h1, h2⟩ := rwB_get (e := e) (n := n) (F := F) (gs := gs) (d := d) (by omega)
  refine ⟨_, _, h1, Reads.row hh (i := i0 + i) (e := e) (c := n) ?_⟩
  rw [← List.getElem?_drop, hL]
  exact h2
section
set_option maxHeartbeats 4000000 in
theorem ref11_rows_ct {w : World} {f : RFun} (hf : FunAt w w.heap.size f) (hfit : Fit f) (hbl : f.blocks.length ≤ 500) : Ct Tryz.prog 72 #[f.val] w (RowsP 79 4 f.blocks.length (tabF f.terms)) := by
  have htl : f.terms.length = f.blocks.length := by simp [RFun.terms]
  refine Ct.mk Tryz.func72 rfl rfl ?_
  refine Cd.seq ?_
  refine Cd.region ?_
  refine Ol.x bxg ?_
  rintro _ _ ⟨g1, rfl, rfl⟩
  refine Ol.p ass ?_
  refine Ol.nil ?_
  refine Cd.seq ?_
  refine Cd.region ?_
  refine Ol.p ass ?_
  refine Ol.nil ?_
  refine Cd.seq ?_
  refine Cd.region ?_
  refine Ol.p (ldw (cs := f.cells.toArray) ag_api_Func (i := 0) rfl rfl) ?_
  refine Ol.x (bsv (ints [0]) sl_L_int zr_int (by simp [ints, Value.cells])) ?_
  rintro _ _ ⟨g10, rfl, rfl⟩
  refine Ol.x (sp_call (vs := [f.val, .slice (some ⟨g10, 0, none⟩) 1 1, .slice none 0 0]) en_ref10_Reached (fun M w' hh => ref10_Reached_ct (fr := [0]) (nt := []) (hf.now hh) hfit (Reads.row hh (i := 0) rfl) Reads.none_ (by decide) (by decide))) ?_
  rintro _ _ ⟨_, rfl, A11, c11, rfl, rfl⟩
  refine Ol.p ass ?_
  refine Ol.nil ?_
  have hR1 := reachedF_le f.terms [0] []
  have hR2 : ∀ i ∈ reachedF f.terms [0] [], i < f.terms.length := fun i h => reached_lt h
  have htab : ∀ d x, tabF f.terms d x = ((reachedF f.terms [0] []).contains x && (reachedF f.terms [0] []).contains d && !(reachedF f.terms [0] [(d : Int)]).contains x) := tabF_ref f.terms
  obtain ⟨F, hF⟩ : ∃ F, F = tabF f.terms := ⟨_, rfl⟩
  obtain ⟨R, hR⟩ : ∃ R, R = reachedF f.terms [0] [] := ⟨_, rfl⟩
  obtain ⟨n, hn⟩ : ∃ n, n = f.blocks.length := ⟨_, rfl⟩
  rw [← hF] at htab ⊢
  rw [← hR] at htab hR1 hR2 ⊢
  rw [htl, ← hn] at hR2
  rw [← hn] at hbl
  rw [← hn]
  refine Cd.nr 79 1 ?_
  refine Cd.keep (L' := [row (.slice none 0 0) 79 1 0 (hdB n []), row (.slice A11 R.length c11) 3 1 R.length (intsN R), blk g1 (.cells f.cells.toArray 25)] ++ rwB 4 n F []) (.sub (.cons_cons _ (.cons_cons _ (.cons _ (List.Sublist.refl _))))) ?_
  refine Cd.seq ?_
  refine Cd.seq ?_
  refine Cd.region ?_
  refine Ol.p asi ?_
  refine Ol.nil ?_
  refine Cd.block ?_   -- 0
  refine Cd.loop (fun m σ L => ∃ (k : Nat) (A : Option Addr) (c : Nat) (gs : List Nat), m = n - k ∧ k ≤ n ∧ gs.length = k ∧ Has σ [(1, .pointer (some ⟨g1, 0, none⟩)), (3, .slice A k c), (4, .slice A11 R.length c11), (5, .int .i64 k)] ∧ [row (.slice A k c) 79 1 k (hdB n gs), row (.slice A11 R.length c11) 3 1 R.length (intsN R), blk g1 (.cells f.cells.toArray 25)] ++ rwB 4 n F gs = L) (n := n) ⟨0, none, 0, [], rfl, Nat.zero_le _, rfl, ⟨rfl, rfl, rfl, rfl, trivial⟩, rfl⟩ ?_
  rintro _ σ L ⟨k, A, c, gs, rfl, hk, hgs, hs, rfl⟩
  refine Cd.has hs ?_
  clear hs
  refine Cd.seq ?_
  refine Cd.seq ?_
  refine Cd.region ?_
  refine Ol.p mvi ?_
  refine Ol.p (fdl fd_api_Func_1) ?_
  refine Ol.p (ld (v := .slice f.bA f.blocks.length f.bC) one_L_api_Block (Rd.blk (i := 2) rfl rfl)) ?_
  refine Ol.p (lens sl_L_api_Block) ?_
  refine Ol.p lsi ?_
  refine Ol.nil ?_
  refine Cd.cond rfl (fun h => ?_) (fun h => ?_)   -- $16
  · have hlt : k < n := by rw [hn]; exact lt_of h
    refine Cd.skip ?_
    refine Cd.seq ?_
    refine Cd.block ?_   -- 1
    refine Cd.seq ?_
    refine Cd.region ?_
    refine Ol.p (fdl fd_api_Func_1) ?_
    refine Ol.p (ld (v := .slice f.bA f.blocks.length f.bC) one_L_api_Block (Rd.blk (i := 2) rfl rfl)) ?_
    refine Ol.p (lens sl_L_api_Block) ?_
    refine Ol.x (mks (n := f.blocks.length) (c := f.blocks.length) sl_L_bool zr_bool) ?_
    rintro _ _ ⟨gr, rfl, rfl⟩
    refine Ol.p ass ?_
    refine Ol.nil ?_
    rw [show (madeCells (Value.bool false).cells (f.blocks.length * 1)).toList.take (f.blocks.length * 1) = boolsL f.blocks.length fun _ => false from made_bools _, ← hn]
    refine Cd.mid (fun σ' L' => Has σ' [(1, .pointer (some ⟨g1, 0, none⟩)), (3, .slice A k c), (4, .slice A11 R.length c11), (5, .int .i64 k), (6, .slice (some ⟨gr, 0, none⟩) n n)] ∧ Keep L' (row (.slice (some ⟨gr, 0, none⟩) n n) 4 1 n (boolsL n (F k)) :: ([row (.slice A k c) 79 1 k (hdB n gs), row (.slice A11 R.length c11) 3 1 R.length (intsN R), blk g1 (.cells f.cells.toArray 25)] ++ rwB 4 n F gs))) ?_ ?_
    · skip
      refine Cd.seq ?_
      refine Cd.region ?_
      refine Ol.p mvs ?_
      refine Ol.p mvi ?_
      refine Ol.s (cl (v := .bool ((natL R).contains (k : Int))) en_ref11_has (fun M w' hh => ref11_has_nat (Reads.row hh (i := 2) rfl) hR1)) ?_
      refine Ol.nil ?_
      refine Cd.cond rfl (fun h => ?_) (fun h => ?_)   -- $25
      · have hkR : R.contains k = true := by rw [← natL_contains]; exact h
        refine Cd.seq ?_
        refine Cd.region ?_
        refine Ol.p (ldw (cs := f.cells.toArray) ag_api_Func (i := 3) rfl rfl) ?_
        refine Ol.x (bsv (ints [0]) sl_L_int zr_int (by simp [ints, Value.cells])) ?_
        rintro _ _ ⟨g27, rfl, rfl⟩
        refine Ol.p mvi ?_
        refine Ol.x (bsv (ints [(k : Int)]) sl_L_int zr_int (by simp [ints, Value.cells])) ?_
        rintro _ _ ⟨g29, rfl, rfl⟩
        refine Ol.x (sp_call (vs := [f.val, .slice (some ⟨g27, 0, none⟩) 1 1, .slice (some ⟨g29, 0, none⟩) 1 1]) en_ref10_Reached (fun M w' hh => ref10_Reached_ct (fr := [0]) (nt := [(k : Int)]) (hf.now hh) hfit (Reads.row hh (i := 1) rfl) (Reads.row hh (i := 0) rfl) (by decide) (by simp))) ?_
        rintro _ _ ⟨_, rfl, A30, c30, rfl, rfl⟩
        refine Ol.p ass ?_
        refine Ol.nil ?_
        have hK1 := reachedF_le f.terms [0] [(k : Int)]
        have htk := htab k
        obtain ⟨K, hK⟩ : ∃ K, K = reachedF f.terms [0] [(k : Int)] := ⟨_, rfl⟩
        rw [← hK] at htk hK1 ⊢
        refine Cd.seq ?_
        refine Cd.keep (L' := row (.slice A30 K.length c30) 3 1 K.length (intsN K) :: row (.slice (some ⟨gr, 0, none⟩) n n) 4 1 n (boolsL n fun _ => false) :: ([row (.slice A k c) 79 1 k (hdB n gs), row (.slice A11 R.length c11) 3 1 R.length (intsN R), blk g1 (.cells f.cells.toArray 25)] ++ rwB 4 n F gs)) (.sub (.cons_cons _ (.cons _ (.cons _ (List.Sublist.refl _))))) ?_
        refine Cd.region ?_
        refine Ol.p asi ?_
        refine Ol.nil ?_
        refine Cd.block ?_   -- 2
        refine Cd.loop (fun m σ L => ∃ j : Nat, m = R.length - j ∧ j ≤ R.length ∧ Has σ [(1, .pointer (some ⟨g1, 0, none⟩)), (3, .slice A k c), (4, .slice A11 R.length c11), (5, .int .i64 k), (6, .slice (some ⟨gr, 0, none⟩) n n), (7, .slice A30 K.length c30), (8, .int .i64 j)] ∧ row (.slice A30 K.length c30) 3 1 K.length (intsN K) :: row (.slice (some ⟨gr, 0, none⟩) n n) 4 1 n (boolsL n fun x => (R.take j).contains x && !K.contains x) :: ([row (.slice A k c) 79 1 k (hdB n gs), row (.slice A11 R.length c11) 3 1 R.length (intsN R), blk g1 (.cells f.cells.toArray 25)] ++ rwB 4 n F gs) = L) (n := R.length) ⟨0, rfl, Nat.zero_le _, ⟨rfl, rfl, rfl, rfl, rfl, rfl, rfl, trivial⟩, rfl⟩ ?_
        rintro _ σ L ⟨j, rfl, hj, hs, rfl⟩
        refine Cd.has hs ?_
        clear hs
        refine Cd.seq ?_
        refine Cd.seq ?_
        refine Cd.region ?_
        refine Ol.p mvi ?_
        refine Ol.p mvs ?_
        refine Ol.p (lens sl_L_int) ?_
        refine Ol.p lsi ?_
        refine Ol.nil ?_
        refine Cd.cond rfl (fun h => ?_) (fun h => ?_)   -- $34
        · have hjl : j < R.length := lt_of h
          obtain ⟨x, hx⟩ : ∃ x, R[j]? = some x := ⟨_, List.getElem?_eq_getElem hjl⟩
          have hxn : x < n := hR2 x (List.mem_of_getElem? hx)
          have hxv : (intsN R)[j]? = some (.int .i64 (x : Int)) := by simp [intsN, hx]
          refine Cd.skip ?_
          refine Cd.seq ?_
          refine Cd.block ?_   -- 3
          refine Cd.draw mixed 12 (exIs (fun opNo => match opNo with | 10 => some (.bool ((natL K).contains (x : Int))) | _ => none)) (fun _ => []) (by kernel_rfl) exIs_in (fun u hu => ?_)
          refine Wk.p mvs ?_
          refine Wk.p mvs ?_
          refine Wk.p mvi ?_
          refine Wk.p (ixn1 (ix := j) sl_L_int (Som.row (i := 3) rfl (by omega))) ?_
          refine Wk.p (ld (v := .int .i64 (x : Int)) one_int (Rd.row (i := 3) rfl hxv)) ?_
          refine Wk.p mvs ?_
          refine Wk.p mvs ?_
          refine Wk.p mvi ?_
          refine Wk.p (ixn1 (ix := j) sl_L_int (Som.row (i := 3) rfl (by omega))) ?_
          refine Wk.p (ld (v := .int .i64 (x : Int)) one_int (Rd.row (i := 3) rfl hxv)) ?_
          refine Wk.dk hu (sp_call (vs := [.slice A30 K.length c30, .int .i64 (x : Int)]) en_ref11_has (fun M w' hh => ref11_has_nat (Reads.row hh (i := 0) rfl) hK1)) ?_
          refine Wk.p noti ?_
          refine Wk.nil ?_
          rw [needs_exIs hu rfl]
          refine Ol.p (ixn1 (ix := x) sl_L_bool (Som.row (i := 1) rfl (by omega))) ?_
          refine Ol.s (str (i := 1) (k := x) (v := .bool (!(natL K).contains (x : Int))) sz_bool rfl rfl rfl (by rw [boolsL_len]; exact hxn) rfl) ?_
          refine Ol.nil ?_
          refine Cd.region ?_
          refine Ol.p mvi ?_
          refine Ol.p addi ?_
          refine Ol.p asi ?_
          refine Ol.nil ?_
          refine ⟨R.length - (j + 1), by omega, j + 1, rfl, by omega, ⟨rfl, rfl, rfl, rfl, rfl, rfl, rfl, trivial⟩, ?_⟩
          have e : (boolsL n fun x => (R.take (j + 1)).contains x && !K.contains x) = (boolsL n fun x => (R.take j).contains x && !K.contains x).set x (.bool (!(natL K).contains (x : Int))) := by
            rw [boolsL_put, natL_contains]
            refine boolsL_same fun i _ => ?_
            rw [take_snoc_ hx]
            by_cases hi : i = x
            · subst hi
              simp
            · simp [hi, List.contains_eq_mem]
          rw [e]
          rfl
        have hje : j = R.length := by
          have := ge_of_ h
          omega
        refine Cd.exit (id := 2) ?_
        refine ⟨⟨rfl, rfl, rfl, rfl, rfl, trivial⟩, ?_⟩
        rw [hje, List.take_length, show (boolsL n fun x => R.contains x && !K.contains x) = boolsL n (F k) from boolsL_same fun i _ => by rw [htk i, hkR, Bool.and_true]]
        exact .sub (.cons _ (List.Sublist.refl _))
      have hkR : R.contains k = false := by rw [← natL_contains]; exact h
      refine Cd.skip ?_
      refine ⟨⟨rfl, rfl, rfl, rfl, rfl, trivial⟩, ?_⟩
      rw [show (boolsL n (F k)) = boolsL n fun _ => false from boolsL_same fun i _ => by rw [htab k i, hkR, Bool.and_false, Bool.false_and]]
      exact .all
    rintro σ' L' ⟨hs', hkp⟩
    refine Cd.keep hkp ?_
    refine Cd.has hs' ?_
    clear hs' hkp
    refine Cd.region ?_
    refine Ol.p mvs ?_
    refine Ol.p mvs ?_
    refine Ol.x (bsv [.slice (some ⟨gr, 0, none⟩) n n] sl_L_L_bool zr_L_bool (by simp [Value.cells])) ?_
    rintro _ _ ⟨g52, rfl, rfl⟩
    refine Ol.x (apn (i := 2) (n := k) (m := 1) sl_L_L_bool zr_L_bool rfl (by decide) rfl (Src.row (i := 0) rfl rfl) (by intro v hv; simp at hv; subst hv; rfl) (by unfold maxLen; omega) (by omega)) ?_
    rintro _ _ ⟨A2, c2, rfl, rfl⟩
    refine Ol.p ass ?_
    refine Ol.keep (.sub (.cons _ (List.Sublist.refl _))) ?_
    refine Ol.nil ?_
    refine Cd.keep (L' := [row (.slice A2 (k + 1) c2) 79 1 (k + 1) (hdB n (gr :: gs)), row (.slice A11 R.length c11) 3 1 R.length (intsN R), blk g1 (.cells f.cells.toArray 25)] ++ rwB 4 n F (gr :: gs)) ⟨[], ?_⟩ ?_
    · rw [List.append_nil]
      show (row _ _ _ _ _ :: ([_, _, _] ++ rwB 4 n F gs)).Perm ([_, _, _] ++ (row _ _ _ _ (boolsL n (F gs.length)) :: rwB 4 n F gs))
      rw [hgs]
      exact (List.perm_middle (l₁ := [_, _, _])).symm
    refine Cd.region ?_
    refine Ol.p mvi ?_
    refine Ol.p addi ?_
    refine Ol.p asi ?_
    refine Ol.nil ?_
    exact ⟨n - (k + 1), by omega, k + 1, A2, c2, gr :: gs, rfl, by omega, by simp [hgs], ⟨rfl, rfl, rfl, rfl, trivial⟩, rfl⟩
  have hke : k = n := by
    have := ge_of_ h
    omega
  refine Cd.exit (id := 0) ?_
  refine Cd.seq ?_
  refine Cd.region ?_
  refine Ol.p mvs ?_
  refine Ol.p ass ?_
  refine Ol.nil ?_
  subst hke
  exact Cd.ret ⟨.slice A k c, ret1 rfl rfl, _, .sub (.cons_cons _ (.cons _ (.cons _ (List.Sublist.refl _)))), A, c, gs, hgs, rfl, rfl⟩
end
end Go.Proofs.YtkefmjhagmacfaaGreatDoor

