/- LiveLeast (the tied card): for every input that can be read, the law LiveLeast returns true and its arguments read as before. Conditions: the row, its listed table of math/bits tied to the text of the program. -/
/- Part 5 of the proof of LiveLeastC: the texts Dom2, Law11, Law16, LiveP, IrVars, LiveLeast, OpenL, OpenF, LiveLeastC, one behind the other. -/
import Derived.Deep.Slices
import Derived.Test.YtbcnejobnmljlaaDoorCards
import Derived.Test.YtbcnejobnmljlaaDoorTie
import Derived.SevenTiedAt
import Derived.Test.YtbcnejobnmljlaaDoorLiveLeastCM4
/- The package dom: who stands over whom, walked. -/
namespace Go.Proofs.YtbcnejobnmljlaaDoor
set_option linter.unusedVariables false
open Go Go.RowKit
set_option maxRecDepth 100000

section
/-- The blocks up from one, as the iterator goes through them. -/
def upsC (ul pl : List Int) (N : Nat) (b : Int) : List Nat := bif inP pl b then chF (asU ul) N b.toNat else []
def ysC (l : List Nat) : List (List Value) := l.map fun d : Nat => [.int .i64 (d : Int)]
theorem ysC_one (l : List Nat) : ∀ vs ∈ ysC l, vs.length = 1 := by
  intro vs hvs
  unfold ysC at hvs
  rw [List.mem_map] at hvs
  obtain ⟨_, _, rfl⟩ := hvs
  rfl
theorem ysC_get {l : List Nat} {k : Nat} {vs : List Value} (h : (ysC l)[k]? = some vs) : ∃ d, l[k]? = some d ∧ vs = [.int .i64 (d : Int)] ∧ k < l.length := by
  unfold ysC at h
  rw [List.getElem?_map] at h
  cases hn : l[k]? with
  | none => rw [hn] at h; cases h
  | some e => rw [hn] at h; cases h; exact ⟨e, rfl, rfl, (List.getElem?_eq_some_iff.1 hn).1⟩
/-- A tree that can be gone up. -/
structure Up (ul pl : List Int) (N : Nat) (G : Gra) : Prop where
  tr : Tr G (asU ul)
  len : ∀ x, G.R x → x < ul.length ∧ x < pl.length ∧ G.pl x < N
  inn : ∀ b, inP pl b = true → G.R b.toNat ∧ 0 ≤ b
  pln : pl.length < 2 ^ 50
  neg : ∀ x, asU ul x = -1 ∨ 0 ≤ asU ul x
def ChainV (gT gB : Nat) : Value := .func (.func 102) #[] #[.pointer (some ⟨gT, 0, none⟩), .pointer (some ⟨gB, 0, none⟩)]
theorem dom_chain_ct {w : World} {AU AP : Option Addr} {nU nP cU cP : Nat} {b : Int} : Ct Tryd.prog 83 #[treeV AU AP nU nP cU cP, .int .i64 b] w (fun v L => ∃ gT gB, v = ChainV gT gB ∧ L = [blk gB (.cells #[.int .i64 b] 3), blk gT (.cells #[.slice AU nU cU, .slice AP nP cP] 96)]) := by
  refine Ct.mk Tryd.func83 rfl rfl ?_
  refine Cd.seq ?_
  refine Cd.region ?_
  refine Ol.x bxg ?_
  rintro _ _ ⟨g2, rfl, rfl⟩
  refine Ol.x bxi ?_
  rintro _ _ ⟨g3, rfl, rfl⟩
  refine Ol.p (as_ rfl) ?_
  refine Ol.nil ?_
  refine Cd.seq ?_
  refine Cd.region ?_
  refine Ol.p mkf ?_
  refine Ol.p asf ?_
  refine Ol.nil ?_
  exact Cd.ret ⟨_, ret1 rfl rfl, _, .all, g2, g3, rfl, rfl⟩
set_option maxHeartbeats 1000000 in
theorem dom_chain_1_it {w0 : World} {B gT gB : Nat} {AU AP : Option Addr} {cU cP N : Nat} {ul pl : List Int} {G : Gra} {b : Int} (hU : Reads w0 B 1 AU ul.length (ints ul)) (hP : Reads w0 B 1 AP pl.length (ints pl)) (hpn : pl.length < 2 ^ 50) (h' : inP pl b = true → Up ul pl N G) (hb : -9223372036854775808 ≤ b ∧ b ≤ 9223372036854775807) :
    It Tryd.prog w0 B 102 #[.pointer (some ⟨gT, 0, none⟩), .pointer (some ⟨gB, 0, none⟩)] [blk gB (.cells #[.int .i64 b] 3), blk gT (.cells #[.slice AU ul.length cU, .slice AP pl.length cP] 96)] (ysC (upsC ul pl N b)) := by
  intro y J Jx L0 hY h0
  refine Cm.mk Tryd.func102 rfl rfl fun M => ?_
  have hret : ∀ {e : Exit} {σ : Env} {Lj D : List Res}, (e = .ret ∨ e = .normal) → (J (ysC (upsC ul pl N b)).length Lj ∨ ∃ k, Jx k Lj) → Out ⟨Tryd.prog, 20, none, w0, B, M⟩ Tryd.f102 (fun _ L => ∃ Own' Lj, L = Own' ++ Lj ∧ (J (ysC (upsC ul pl N b)).length Lj ∨ ∃ k, Jx k Lj)) e σ (D ++ Lj) := fun {e σ Lj D} he h => by
    rcases he with rfl | rfl <;> exact ⟨_, ret0 rfl, _, .all, D, Lj, rfl, h⟩
  refine Cd.seq ?_
  refine Cd.seq ?_
  refine Cd.region ?_
  refine Ol.p (ldw ag_dom_tree (i := 1) rfl rfl) ?_
  refine Ol.p (ldv one_int (i := 0) rfl) ?_
  refine Ol.s (cl en_dom_tree_reached (fun M w' hh => dom_reached_ct (nU := ul.length) (cU := cU) (cP := cP) (AU := AU) (hP.now hh) hpn hb)) ?_
  refine Ol.p noti ?_
  refine Ol.nil ?_
  refine Cd.cond rfl (fun h1 => ?_) (fun h1 => ?_)   -- $7
  · have e : upsC ul pl N b = [] := by
      unfold upsC
      have : inP pl b = false := by simpa using h1
      rw [this]; rfl
    exact Cd.ret (hret (D := [_, _]) (.inl rfl) (.inl (by rw [e]; simpa [ysC] using h0)))
  have hin : inP pl b = true := by simpa using h1
  have h := h' hin
  obtain ⟨hbR, hb0⟩ := h.inn b hin
  obtain ⟨ch, hch⟩ : ∃ ch, ch = upsC ul pl N b := ⟨_, rfl⟩
  have hch2 : ch = chF (asU ul) N b.toNat := by rw [hch]; unfold upsC; rw [hin]; rfl
  rw [← hch] at hY ⊢
  have hret : ∀ {e : Exit} {σ : Env} {Lj D : List Res}, (e = .ret ∨ e = .normal) → (J (ysC ch).length Lj ∨ ∃ k, Jx k Lj) → Out ⟨Tryd.prog, 20, none, w0, B, M⟩ Tryd.f102 (fun _ L => ∃ Own' Lj, L = Own' ++ Lj ∧ (J (ysC ch).length Lj ∨ ∃ k, Jx k Lj)) e σ (D ++ Lj) := fun {e σ Lj D} he h => by
    rw [hch] at h ⊢
    exact hret he h
  refine Cd.skip ?_
  refine Cd.block ?_   -- 0
  refine Cd.loop (fun m σ L => ∃ (i : Nat) (x : Int) (Lj : List Res), (0 ≤ x → m = G.pl x.toNat + 1 ∧ G.R x.toNat ∧ ∃ n', G.pl x.toNat < n' ∧ ch.drop i = chF (asU ul) n' x.toNat) ∧ (x < 0 → i = ch.length) ∧ (-9223372036854775808 ≤ x ∧ x ≤ 9223372036854775807) ∧ Has σ [(0, .func (.yield y) #[] #[]), (1, .pointer (some ⟨gT, 0, none⟩)), (2, .pointer (some ⟨gB, 0, none⟩))] ∧
      L = blk gB (.cells #[.int .i64 x] 3) :: blk gT (.cells #[.slice AU ul.length cU, .slice AP pl.length cP] 96) :: Lj ∧ J i Lj) (n := G.pl b.toNat + 1) ⟨0, b, L0, fun _ => ⟨rfl, hbR, N, (h.len _ hbR).2.2, by rw [hch2]; rfl⟩, fun hn => absurd hb0 (by omega), hb, ⟨rfl, rfl, rfl, trivial⟩, rfl, h0⟩ ?_
  rintro m σ L ⟨i, x, Lj, hx1, hx2, hxr, hs, rfl, hJ⟩
  refine Cd.has hs ?_
  refine Cd.seq ?_
  refine Cd.seq ?_
  cases h2 : decide (0 ≤ x) with
  | false =>
    have hx0 : x < 0 := by simp at h2; exact h2
    refine Cd.region ?_
    refine Ol.p (ldv one_int (i := 0) rfl) ?_
    refine Ol.p gei ?_
    refine Ol.p mvb ?_
    refine Ol.gn h2 ?_
    refine Ol.gn h2 ?_
    refine Ol.gn h2 ?_
    refine Ol.p (pkFb h2) ?_
    refine Ol.nil ?_
    refine Cd.cond rfl (fun h3 => by cases h3) (fun h3 => ?_)   -- $14
    refine Cd.exit (id := 0) ?_
    refine hret (D := [_, _]) (.inr rfl) (.inl ?_)
    rw [hx2 hx0] at hJ
    simpa [ysC] using hJ
  | true =>
    have hx0 : 0 ≤ x := by simpa using h2
    obtain ⟨rfl, hxR, n', hn', hdr⟩ := hx1 hx0
    have hcast : ((x.toNat : Nat) : Int) = x := by omega
    obtain ⟨q, rfl⟩ : ∃ q, n' = q + 1 := ⟨n' - 1, by omega⟩
    have hget : ch[i]? = some x.toNat := by
      have : (ch.drop i)[0]? = some x.toNat := by rw [hdr]; rfl
      simpa using this
    have hil := (List.getElem?_eq_some_iff.1 hget).1
    have hyv : (ysC ch)[i]? = some [.int .i64 x] := by
      unfold ysC
      rw [List.getElem?_map, hget]
      simp [hcast]
    have hl := h.len _ hxR
    have hux := ints_get' (asU_get (ul := ul) (b := x.toNat) hl.1)
    have hdr2 : ch.drop (i + 1) = if asU ul x.toNat < 0 then [] else chF (asU ul) q (asU ul x.toNat).toNat := by
      have : ch.drop (i + 1) = (ch.drop i).drop 1 := by rw [List.drop_drop]
      rw [this, hdr]
      rfl
    refine Cd.region ?_
    refine Ol.p (ldv one_int (i := 0) rfl) ?_
    refine Ol.p gei ?_
    refine Ol.p mvb ?_
    refine Ol.gp h2 mvf ?_
    refine Ol.gp h2 (ldv one_int (i := 0) rfl) ?_
    refine Ol.gx h2 (sp_yield (Own := [blk gB (.cells #[.int .i64 x] 3), blk gT (.cells #[.slice AU ul.length cU, .slice AP pl.length cP] 96)]) hY hyv hJ) ?_
    rintro _ _ ⟨bb, Lj', rfl, rfl, ht', hf'⟩
    refine Ol.p (pkTb h2) ?_
    refine Ol.nil ?_
    refine Cd.cond rfl (fun h3 => ?_) (fun h3 => ?_)   -- $14
    · have hJ' := ht' h3
      refine Cd.skip ?_
      refine Cd.seq ?_
      refine Cd.block ?_   -- 1
      refine Cd.skip ?_
      refine Cd.region ?_
      refine Ol.p (fdl fd_dom_tree_0) ?_
      refine Ol.p (ld (v := .slice AU ul.length cU) one_L_int (Rd.blk (i := 1) rfl rfl)) ?_
      refine Ol.p (ldv one_int (i := 0) rfl) ?_
      refine Ol.p (ixn1 (ix := x.toNat) sl_L_int (Som.slc hU (by omega)) (hy := congrArg (Value.int .i64) hcast.symm)) ?_
      refine Ol.p (ld one_int (Rd.slc hU hux)) ?_
      refine Ol.s (stv sz_int (i := 0) rfl rfl) ?_
      refine Ol.nil ?_
      have hup := h.neg x.toNat
      rcases hup with e | e
      · refine ⟨0, by omega, i + 1, _, Lj', fun h5 => by omega, fun _ => ?_, by omega, ⟨rfl, rfl, rfl, trivial⟩, rfl, hJ'⟩
        rw [if_pos (by omega)] at hdr2
        have := List.drop_eq_nil_iff.1 hdr2
        omega
      · have hr := h.tr.up _ e
        rw [if_neg (by omega)] at hdr2
        have hlR := h.len _ hr.2.1
        have hul : (asU ul x.toNat).toNat < 2 ^ 50 := by have := h.pln; omega
        refine ⟨G.pl (asU ul x.toNat).toNat + 1, by have := hr.2.2.1; omega, i + 1, _, Lj', fun _ => ⟨rfl, hr.2.1, q, by have := hr.2.2.1; omega, hdr2⟩, fun h5 => by omega, by omega, ⟨rfl, rfl, rfl, trivial⟩, rfl, hJ'⟩
    refine Cd.exit (id := 0) ?_
    exact hret (D := [_, _]) (.inr rfl) (.inr ⟨_, hf' h3⟩)
theorem dom_over_ct {w : World} {AU AP : Option Addr} {cU cP N : Nat} {ul pl : List Int} {G : Gra} {a b : Int} (hU : Reads w w.heap.size 1 AU ul.length (ints ul)) (hP : Reads w w.heap.size 1 AP pl.length (ints pl)) (hpn : pl.length < 2 ^ 50) (h : inP pl b = true → Up ul pl N G) (hb : -9223372036854775808 ≤ b ∧ b ≤ 9223372036854775807) :
    Ct Tryd.prog 66 #[treeV AU AP ul.length pl.length cU cP, .int .i64 a, .int .i64 b] w (Is (.bool ((upsC ul pl N b).any fun d => decide ((d : Int) = a)))) := by
  refine Ct.mk Tryd.func66 rfl rfl ?_
  refine Cd.seq ?_
  refine Cd.region ?_
  refine Ol.x bxg ?_
  rintro _ _ ⟨g3, rfl, rfl⟩
  refine Ol.x bxi ?_
  rintro _ _ ⟨g4, rfl, rfl⟩
  refine Ol.x (alc zr_bool) ?_
  rintro _ _ ⟨g6, rfl, rfl⟩
  refine Ol.nil ?_
  refine Cd.seq ?_
  refine Cd.seq ?_
  refine Cd.region ?_
  refine Ol.p (ldw ag_dom_tree (i := 2) rfl rfl) ?_
  refine Ol.p mvi ?_
  refine Ol.x (sp_call en_dom_tree_chain (fun M w' hh => dom_chain_ct (b := b))) ?_
  rintro _ _ ⟨_, rfl, gT, gB, rfl, rfl⟩
  refine Ol.nil ?_
  obtain ⟨ch, hch⟩ : ∃ ch, ch = upsC ul pl N b := ⟨_, rfl⟩
  rw [← hch]
  refine Cd.block ?_   -- 0
  refine Cd.rf (Own := [blk gB (.cells #[.int .i64 b] 3), blk gT (.cells #[.slice AU ul.length cU, .slice AP pl.length cP] 96)]) (L0 := [blk g6 (.cells #[.bool false] 4), blk g4 (.cells #[.int .i64 a] 3), blk g3 (.cells #[.slice AU ul.length cU, .slice AP pl.length cP] 96)])
    (fun k L => L = [blk g6 (.cells #[.bool false] 4), blk g4 (.cells #[.int .i64 a] 3), blk g3 (.cells #[.slice AU ul.length cU, .slice AP pl.length cP] 96)] ∧ ∀ i d, i < k → ch[i]? = some d → decide ((d : Int) = a) = false)
    (fun _ c L => c = .ret ∧ L = [blk g6 (.cells #[.bool true] 4), blk g4 (.cells #[.int .i64 a] 3), blk g3 (.cells #[.slice AU ul.length cU, .slice AP pl.length cP] 96)] ∧ (ch.any fun d => decide ((d : Int) = a)) = true) (fun _ h => by cases h) en_dom_tree_chain_1 (by rw [hch]; exact dom_chain_1_it hU hP hpn h hb) (.refl _) ⟨rfl, fun i d hi => by omega⟩ (ysC_one ch) rfl ?_ ?_ ?_
  · rintro l H k vs Lj hk ⟨rfl, hno⟩
    obtain ⟨d, hd, rfl, hlt⟩ := ysC_get hk
    refine Cd.region ?_
    refine Ol.p asi ?_
    refine Ol.nil ?_
    intro H' r hr
    refine Cd.block ?_   -- 1
    refine Cd.seq ?_
    refine Cd.region ?_
    refine Ol.p mvi ?_
    refine Ol.p (ldv one_int (i := 1) rfl) ?_
    refine Ol.p eqi ?_
    refine Ol.nil ?_
    refine Cd.cond rfl (fun h2 => ?_) (fun h2 => ?_)   -- $14
    · refine Cd.seq ?_
      refine Cd.region ?_
      refine Ol.s (stv sz_bool (i := 0) rfl rfl) ?_
      refine Ol.nil ?_
      refine Cd.ret ⟨rfl, rfl, ?_⟩
      rw [List.any_eq_true]
      exact ⟨d, List.mem_of_getElem? hd, h2⟩
    refine Cd.skip ⟨rfl, fun i d' hi hd' => ?_⟩
    by_cases e : i = k
    · subst e
      rw [hd] at hd'; cases hd'
      exact h2
    · exact hno i d' (by omega) hd'
  · rintro L' ⟨rfl, hno⟩
    have hf : (ch.any fun d => decide ((d : Int) = a)) = false := by
      rw [List.any_eq_false]
      intro d hd
      obtain ⟨i, hi, rfl⟩ := List.getElem_of_mem hd
      have := hno i _ (by simpa [ysC] using hi) (List.getElem?_eq_getElem hi)
      rw [this]; simp
    refine Cd.seq ?_
    refine Cd.region ?_
    refine Ol.s (stv sz_bool (i := 0) rfl rfl) ?_
    refine Ol.nil ?_
    exact Cd.ret ⟨.bool _, retv rfl one_bool rfl (i := 0) rfl rfl, [], .nil, by rw [hf], rfl⟩
  · rintro k c L' ⟨rfl, rfl, ht⟩
    exact Cd.ret ⟨.bool _, retv rfl one_bool rfl (i := 0) rfl rfl, [], .nil, by rw [ht], rfl⟩
/-- A tree that was made can be gone up. -/
theorem Up.of {ts : List Tm} (hc : closed ts = true) (hd : DomU ts (domL ts)) : Up (domL ts) (plL ts) (ts.length + 1) (gra ts hc) := by
  have F := hd.2 hc
  have hl := (closed_le hc).2
  refine ⟨F.tr, fun x hx => ?_, fun b hb => ?_, by rw [plL_len]; omega, fun x => ?_⟩
  · have h1 := order_lt hc hx
    have h2 : (orderF ts).idxOf x < (orderF ts).length := List.idxOf_lt_length_of_mem hx
    have h3 := order_len_le hc
    exact ⟨by rw [hd.1]; exact h1, by rw [plL_len]; exact h1, by show (orderF ts).idxOf x < _; omega⟩
  · obtain ⟨x, rfl, hx⟩ := (inP_iff hc).1 hb
    exact ⟨hx, by omega⟩
  · by_cases hx : x ∈ orderF ts
    · rcases F.all x hx with e | e
      · left; rw [e]; exact F.tr.z
      · exact .inr e
    · exact .inl (F.non x hx)
/-- A tree without blocks. -/
def G0 : Gra := ⟨fun x => x = 0, fun _ _ => False, fun _ => 0, fun _ => 0, rfl, rfl, fun a b ha hb _ => ha.trans hb.symm, fun c h h0 => absurd h h0, fun _ _ _ h => h.elim⟩
theorem overF_ups {ts : List Tm} {a b : Int} (hc : closed ts = true) : overF ts a b = (upsC (domL ts) (plL ts) (ts.length + 1) b).any fun d => decide ((d : Int) = a) := by
  unfold overF chainL upsC
  rw [hc, Bool.true_and]
theorem dom_Of_ct {w : World} {f : RFun} (hf : FunAt w w.heap.size f) (hfit : Fit f) : Ct Tryd.prog 34 #[f.val] w (fun v R => (closed f.terms = false ∧ v = .slice none 0 0 ∧ R = []) ∨ (closed f.terms = true ∧ DomU f.terms (domL f.terms) ∧ ∃ g, v = .slice (some ⟨g, 0, none⟩) f.terms.length f.terms.length ∧ R = [blk g (.cells (ints (domL f.terms)).toArray 3)])) := by
  refine Ct.mk Tryd.func34 rfl rfl ?_
  refine Cd.seq ?_
  refine Cd.region ?_
  refine Ol.x bxg ?_
  rintro _ _ ⟨g1, rfl, rfl⟩
  refine Ol.p ass ?_
  refine Ol.nil ?_
  refine Cd.seq ?_
  refine Cd.region ?_
  refine Ol.p (ldw ag_api_Func (i := 0) rfl rfl) ?_
  refine Ol.x (sp_call en_dom_made (fun M w' hh => dom_made_ct (hf.now hh) hfit)) ?_
  rintro _ _ ⟨_, rfl, ⟨hc, rfl, rfl⟩ | ⟨hc, hd, gU, gP, rfl, rfl⟩⟩
  · skip
    refine Ol.p (fdv fv_dom_tree_0 one_L_int rfl) ?_
    refine Ol.p ass ?_
    refine Ol.nil ?_
    exact Cd.ret ⟨.slice none 0 0, ret1 rfl rfl, [], .nil, .inl ⟨hc, rfl, rfl⟩⟩
  · skip
    refine Ol.p (fdv fv_dom_tree_0 one_L_int rfl) ?_
    refine Ol.p ass ?_
    refine Ol.nil ?_
    exact Cd.ret ⟨.slice _ _ _, ret1 rfl rfl, _, .sub (.cons _ (.cons_cons _ (List.nil_sublist _))), .inr ⟨hc, hd, gU, rfl, rfl⟩⟩
theorem dom_Over_ct {w : World} {f : RFun} {a b : Int} (hf : FunAt w w.heap.size f) (hfit : Fit f) (hb : -9223372036854775808 ≤ b ∧ b ≤ 9223372036854775807) : Ct Tryd.prog 36 #[f.val, .int .i64 a, .int .i64 b] w (Is (.bool (overF f.terms a b))) := by
  refine Ct.mk Tryd.func36 rfl rfl ?_
  refine Cd.seq ?_
  refine Cd.region ?_
  refine Ol.x bxg ?_
  rintro _ _ ⟨g3, rfl, rfl⟩
  refine Ol.p asb ?_
  refine Ol.nil ?_
  refine Cd.seq ?_
  refine Cd.region ?_
  refine Ol.p (ldw ag_api_Func (i := 0) rfl rfl) ?_
  refine Ol.x (sp_call en_dom_made (fun M w' hh => dom_made_ct (hf.now hh) hfit)) ?_
  rintro _ _ ⟨_, rfl, ⟨hc, rfl, rfl⟩ | ⟨hc, hd, gU, gP, rfl, rfl⟩⟩
  · have hno : inP [] b = false := by
      unfold inP
      by_cases e : 0 ≤ b <;> simp [e]
    refine Ol.p mvi ?_
    refine Ol.p mvi ?_
    refine Ol.s (cl en_dom_tree_over (fun M w' hh => dom_over_ct (ul := []) (pl := []) (a := a) (N := 1) (G := G0) ⟨rfl, fun h => by simp at h⟩ ⟨rfl, fun h => by simp at h⟩ (by decide) (fun h => by rw [hno] at h; cases h) hb)) ?_
    refine Ol.p asb ?_
    refine Ol.nil ?_
    refine Cd.ret ⟨.bool _, ret1 rfl rfl, [], .nil, ?_, rfl⟩
    unfold upsC overF chainL
    rw [hno, hc]; rfl
  · skip
    refine Ol.p mvi ?_
    refine Ol.p mvi ?_
    refine Ol.s (cl en_dom_tree_over (fun M w' hh => by have := dom_over_ct (w := w') (ul := domL f.terms) (pl := plL f.terms) (AU := some ⟨gU, 0, none⟩) (AP := some ⟨gP, 0, none⟩) (cU := f.terms.length) (cP := f.terms.length) (a := a) (Reads.blk hh (i := 1) rfl (by simp [ints]) (fun j u hu => by simpa using hu)) (Reads.blk hh (i := 0) rfl (by simp [ints]) (fun j u hu => by simpa using hu)) (by rw [plL_len]; have := (closed_le hc).2; omega) (fun _ => Up.of hc hd) hb; rw [hd.1, plL_len] at this; exact this)) ?_
    refine Ol.p asb ?_
    refine Ol.nil ?_
    exact Cd.ret ⟨.bool _, ret1 rfl rfl, [], .nil, by rw [overF_ups hc], rfl⟩
/-- The last block over two. -/
noncomputable def bothF (ts : List Tm) (a b : Int) : Int := bif closed ts && (inP (plL ts) a && inP (plL ts) b) then ((Classical.epsilon fun m : Nat => Meet (asU (domL ts)) a.toNat b.toNat m : Nat) : Int) else -1
theorem Meet.eps {G : Gra} {U : Nat → Int} {a b m : Nat} (ht : Tr G U) (ha : Pr U a) (h : Meet U a b m) : (Classical.epsilon fun m : Nat => Meet U a b m) = m := (Classical.epsilon_spec (p := fun m : Nat => Meet U a b m) ⟨m, h⟩).eq ht ha h
set_option maxHeartbeats 1000000 in
theorem dom_Both_ct {w : World} {f : RFun} {a b : Int} (hf : FunAt w w.heap.size f) (hfit : Fit f) (ha : -9223372036854775808 ≤ a ∧ a ≤ 9223372036854775807) (hb : -9223372036854775808 ≤ b ∧ b ≤ 9223372036854775807) : Ct Tryd.prog 64 #[f.val, .int .i64 a, .int .i64 b] w (Is (.int .i64 (bothF f.terms a b))) := by
  refine Ct.mk Tryd.func64 rfl rfl ?_
  refine Cd.seq ?_
  refine Cd.region ?_
  refine Ol.x bxg ?_
  rintro _ _ ⟨g3, rfl, rfl⟩
  refine Ol.p asi ?_
  refine Ol.nil ?_
  refine Cd.seq ?_
  refine Cd.region ?_
  refine Ol.p (ldw ag_api_Func (i := 0) rfl rfl) ?_
  refine Ol.x (sp_call en_dom_made (fun M w' hh => dom_made_ct (hf.now hh) hfit)) ?_
  rintro _ _ ⟨_, rfl, ⟨hc, rfl, rfl⟩ | ⟨hc, hd, gU, gP, rfl, rfl⟩⟩
  · have hno : inP [] a = false := by
      unfold inP
      by_cases e : 0 ≤ a <;> simp [e]
    have hg : (!inP [] a) = true := by rw [hno]; rfl
    refine Ol.x (alc zr_dom_tree) ?_
    rintro _ _ ⟨g7, rfl, rfl⟩
    refine Ol.s (stw (vs := #[.slice none 0 0, .slice none 0 0]) sz_dom_tree rfl (by intro u hu; simp at hu; subst hu; rfl) (i := 0) rfl rfl) ?_
    refine Ol.nil ?_
    refine Cd.seq ?_
    refine Cd.seq ?_
    refine Cd.region ?_
    refine Ol.p (ldw ag_dom_tree (i := 0) rfl rfl) ?_
    refine Ol.p mvi ?_
    refine Ol.s (cl en_dom_tree_reached (fun M w' hh => dom_reached_ct (pl := []) (nU := 0) (cU := 0) (cP := 0) (AU := none) (AP := none) ⟨rfl, fun h => by simp at h⟩ (by decide) ha)) ?_
    refine Ol.p noti ?_
    refine Ol.p mvb ?_
    refine Ol.gn hg ?_
    refine Ol.gn hg ?_
    refine Ol.gn hg ?_
    refine Ol.gn hg ?_
    refine Ol.p (pkTb hg) ?_
    refine Ol.nil ?_
    refine Cd.cond rfl (fun h => ?_) (fun h => by cases h)   -- $19
    refine Cd.seq ?_
    refine Cd.region ?_
    refine Ol.p asi ?_
    refine Ol.nil ?_
    refine Cd.ret ⟨.int .i64 _, ret1 rfl rfl, [], .nil, ?_, rfl⟩
    unfold bothF
    rw [hc]; rfl
  · skip
    refine Ol.x (alc zr_dom_tree) ?_
    rintro _ _ ⟨g7, rfl, rfl⟩
    refine Ol.s (stw (vs := #[.slice (some ⟨gU, 0, none⟩) f.terms.length f.terms.length, .slice (some ⟨gP, 0, none⟩) f.terms.length f.terms.length]) sz_dom_tree rfl (by intro u hu; simp at hu; rcases hu with rfl | rfl <;> rfl) (i := 0) rfl rfl) ?_
    refine Ol.nil ?_
    have hl := (closed_le hc).2
    have U := Up.of hc hd
    have F := hd.2 hc
    have hreach : ∀ (x : Int), (-9223372036854775808 ≤ x ∧ x ≤ 9223372036854775807) → ∀ (M : List Res) (w' : World), Hp w w.heap.size (M ++ [blk g7 (.cells #[.slice (some ⟨gU, 0, none⟩) f.terms.length f.terms.length, .slice (some ⟨gP, 0, none⟩) f.terms.length f.terms.length] 96), blk gP (.cells (ints (plL f.terms)).toArray 3), blk gU (.cells (ints (domL f.terms)).toArray 3), blk g3 (.cells f.cells.toArray 38)]) w' →
        Ct Tryd.prog 80 #[treeV (some ⟨gU, 0, none⟩) (some ⟨gP, 0, none⟩) f.terms.length f.terms.length f.terms.length f.terms.length, .int .i64 x] w' (Is (.bool (inP (plL f.terms) x))) := fun x hx M w' hh => by
      have := dom_reached_ct (w := w') (pl := plL f.terms) (nU := f.terms.length) (cU := f.terms.length) (cP := f.terms.length) (AU := some ⟨gU, 0, none⟩) (AP := some ⟨gP, 0, none⟩) (Reads.blk hh (i := 1) rfl (by simp [ints]) (fun j u hu => by simpa using hu)) (by rw [plL_len]; omega) hx
      rw [plL_len] at this; exact this
    refine Cd.seq ?_
    refine Cd.mid (fun σ' L' => Has σ' [(1, .int .i64 a), (2, .int .i64 b), (3, .pointer (some ⟨g3, 0, none⟩)), (7, .pointer (some ⟨g7, 0, none⟩)), (19, .bool (!(inP (plL f.terms) a && inP (plL f.terms) b)))] ∧ [blk g7 (.cells #[.slice (some ⟨gU, 0, none⟩) f.terms.length f.terms.length, .slice (some ⟨gP, 0, none⟩) f.terms.length f.terms.length] 96), blk gP (.cells (ints (plL f.terms)).toArray 3), blk gU (.cells (ints (domL f.terms)).toArray 3), blk g3 (.cells f.cells.toArray 38)] = L') ?_ ?_
    · cases hA : inP (plL f.terms) a with
      | false =>
        have hg : (!inP (plL f.terms) a) = true := by rw [hA]; rfl
        refine Cd.region ?_
        refine Ol.p (ldw ag_dom_tree (i := 0) rfl rfl) ?_
        refine Ol.p mvi ?_
        refine Ol.s (cl en_dom_tree_reached (hreach a ha)) ?_
        refine Ol.p noti ?_
        refine Ol.p mvb ?_
        refine Ol.gn hg ?_
        refine Ol.gn hg ?_
        refine Ol.gn hg ?_
        refine Ol.gn hg ?_
        refine Ol.p (pkTb hg) ?_
        refine Ol.nil ?_
        exact ⟨⟨rfl, rfl, rfl, rfl, rfl, trivial⟩, rfl⟩
      | true =>
        have hg : (!inP (plL f.terms) a) = false := by rw [hA]; rfl
        refine Cd.region ?_
        refine Ol.p (ldw ag_dom_tree (i := 0) rfl rfl) ?_
        refine Ol.p mvi ?_
        refine Ol.s (cl en_dom_tree_reached (hreach a ha)) ?_
        refine Ol.p noti ?_
        refine Ol.p mvb ?_
        refine Ol.gp hg (ldw ag_dom_tree (i := 0) rfl rfl) ?_
        refine Ol.gp hg mvi ?_
        refine Ol.gs hg (cl en_dom_tree_reached (hreach b hb)) ?_
        refine Ol.gp hg noti ?_
        refine Ol.p (pkFb hg) ?_
        refine Ol.nil ?_
        exact ⟨⟨rfl, rfl, rfl, rfl, rfl, trivial⟩, rfl⟩
    rintro σ' _ ⟨hs', rfl⟩
    refine Cd.has hs' ?_
    refine Cd.cond rfl (fun h => ?_) (fun h => ?_)   -- $19
    · refine Cd.seq ?_
      refine Cd.region ?_
      refine Ol.p asi ?_
      refine Ol.nil ?_
      refine Cd.ret ⟨.int .i64 _, ret1 rfl rfl, [], .nil, ?_, rfl⟩
      unfold bothF
      have : (inP (plL f.terms) a && inP (plL f.terms) b) = false := by rw [← Bool.not_eq_true']; exact h
      rw [hc, this]; rfl
    have hin : (inP (plL f.terms) a && inP (plL f.terms) b) = true := by simpa using h
    obtain ⟨x, hx, hxo⟩ := (inP_iff hc).1 (Bool.and_eq_true_iff.1 hin).1
    obtain ⟨y, hy, hyo⟩ := (inP_iff hc).1 (Bool.and_eq_true_iff.1 hin).2
    subst hx
    subst hy
    refine Cd.skip ?_
    refine Cd.seq ?_
    refine Cd.region ?_
    refine Ol.p (ldw ag_dom_tree (i := 0) rfl rfl) ?_
    refine Ol.p mvi ?_
    refine Ol.p mvi ?_
    refine Ol.x (sp_call en_dom_tree_meet (fun M w' hh => by have := dom_meet_ct (w := w') (AU := some ⟨gU, 0, none⟩) (AP := some ⟨gP, 0, none⟩) (cU := f.terms.length) (cP := f.terms.length) (ul := domL f.terms) (pl := plL f.terms) (G := gra f.terms hc) (Reads.blk hh (i := 2) rfl (by simp [ints]) (fun j u hu => by simpa using hu)) (Reads.blk hh (i := 1) rfl (by simp [ints]) (fun j u hu => by simpa using hu)) F.tr (fun z hz => by rw [plL_get (order_lt hc hz), if_pos (show z ∈ orderF f.terms from hz)]; rfl) (fun z hz => ⟨(U.len z hz).1, (U.len z hz).2.1⟩) (F.all x hxo) (F.all y hyo); rw [hd.1, plL_len] at this; exact this)) ?_
    rintro _ _ ⟨_, rfl, m, rfl, hm, rfl⟩
    refine Ol.p asi ?_
    refine Ol.nil ?_
    refine Cd.ret ⟨.int .i64 _, ret1 rfl rfl, [], .nil, ?_, rfl⟩
    unfold bothF
    rw [hc, hin, Bool.true_and, cond_true, Int.toNat_natCast, Int.toNat_natCast, hm.eps F.tr (F.all x hxo)]
end
end Go.Proofs.YtbcnejobnmljlaaDoor

/- The law 11: its example, walked. -/
namespace Go.Proofs.YtbcnejobnmljlaaDoor
set_option linter.unusedVariables false
open Go Go.RowKit
set_option maxRecDepth 100000

section
theorem law11_branch_ct {w : World} {x y : Int} : Ct Tryd.prog 62 #[.int .i64 x, .int .i64 y] w (Is (RBlk.val ⟨none, 0, [], ⟨2, 1, x, y⟩⟩)) := by
  refine Ct.mk Tryd.func62 rfl rfl ?_
  refine Cd.seq ?_
  refine Cd.region ?_
  refine Ol.x (alc zr_api_Block) ?_
  rintro _ _ ⟨g4, rfl, rfl⟩
  refine Ol.nil ?_
  refine Cd.seq ?_
  refine Cd.region ?_
  refine Ol.p mvi ?_
  refine Ol.p mvi ?_
  refine Ol.p (bda (cs := #[.int .i64 x, .int .i64 y]) ar_A2_int zr_A2_int (hf := by kernel_rfl)) ?_
  refine Ol.p (bds (cs := #[.int .i64 2, .int .i64 1, .int .i64 x, .int .i64 y]) bs_api_Term zr_api_Term (hf := by kernel_rfl)) ?_
  refine Ol.p (bds (cs := #[.slice none 0 0, .int .i64 2, .int .i64 1, .int .i64 x, .int .i64 y]) bs_api_Block zr_api_Block (hf := by kernel_rfl)) ?_
  refine Ol.s (stw (vs := #[.slice none 0 0, .int .i64 2, .int .i64 1, .int .i64 x, .int .i64 y]) sz_api_Block rfl (by intro u hu; simp at hu; rcases hu with rfl | rfl | rfl | rfl | rfl <;> rfl) (i := 0) rfl rfl) ?_
  refine Ol.nil ?_
  refine Cd.ret ⟨_, retc rfl ag_api_Block rfl (i := 0) rfl rfl, [], .nil, rfl, rfl⟩
theorem law11_jump_ct {w : World} {x : Int} : Ct Tryd.prog 63 #[.int .i64 x] w (Is (RBlk.val ⟨none, 0, [], ⟨1, 0, x, 0⟩⟩)) := by
  refine Ct.mk Tryd.func63 rfl rfl ?_
  refine Cd.seq ?_
  refine Cd.region ?_
  refine Ol.x (alc zr_api_Block) ?_
  rintro _ _ ⟨g2, rfl, rfl⟩
  refine Ol.nil ?_
  refine Cd.seq ?_
  refine Cd.region ?_
  refine Ol.p mvi ?_
  refine Ol.p (bda (cs := #[.int .i64 x, .int .i64 0]) ar_A2_int zr_A2_int (hf := by kernel_rfl)) ?_
  refine Ol.p (bds (cs := #[.int .i64 1, .int .i64 0, .int .i64 x, .int .i64 0]) bs_api_Term zr_api_Term (hf := by kernel_rfl)) ?_
  refine Ol.p (bds (cs := #[.slice none 0 0, .int .i64 1, .int .i64 0, .int .i64 x, .int .i64 0]) bs_api_Block zr_api_Block (hf := by kernel_rfl)) ?_
  refine Ol.s (stw (vs := #[.slice none 0 0, .int .i64 1, .int .i64 0, .int .i64 x, .int .i64 0]) sz_api_Block rfl (by intro u hu; simp at hu; rcases hu with rfl | rfl | rfl | rfl | rfl <;> rfl) (i := 0) rfl rfl) ?_
  refine Ol.nil ?_
  refine Cd.ret ⟨_, retc rfl ag_api_Block rfl (i := 0) rfl rfl, [], .nil, rfl, rfl⟩
end
section
def F11 (g : Nat) : RFun := ⟨none, 0, [], some ⟨g, 0, none⟩, 4, [⟨none, 0, [], ⟨2, 1, 1, 2⟩⟩, ⟨none, 0, [], ⟨1, 0, 3, 0⟩⟩, ⟨none, 0, [], ⟨1, 0, 3, 0⟩⟩, ⟨none, 0, [], ⟨4, 0, 0, 0⟩⟩]⟩
def T11 : List Tm := [⟨2, 1, 1, 2⟩, ⟨1, 0, 3, 0⟩, ⟨1, 0, 3, 0⟩, ⟨4, 0, 0, 0⟩]
theorem F11_fit (g : Nat) : Fit (F11 g) := by
  constructor <;> simp [F11]
theorem Reads.no {w : World} {B s : Nat} : Reads w B s none 0 [] := ⟨by simp, fun h => absurd h (by omega)⟩
theorem F11_at {w : World} {B g : Nat} (h : Reads w B 5 (some ⟨g, 0, none⟩) 4 ((F11 g).blocks.flatMap RBlk.cells)) : FunAt w B (F11 g) := by
  refine ⟨Reads.no, h, ?_, ?_⟩
  · intro b hb
    simp [F11] at hb
    rcases hb with rfl | rfl | rfl <;> exact Reads.no
  · intro b hb i hi
    simp [F11] at hb
    rcases hb with rfl | rfl | rfl <;> simp at hi
theorem T11_closed : closed T11 = true := by kernel_rfl
theorem T11_dom : DomU T11 [-1, 0, 0, 0] := DomU.of_check (by kernel_rfl)
theorem T11_domL : domL T11 = [-1, 0, 0, 0] := (T11_dom.eqL T11_closed).symm
theorem T11_over (a b : Int) (r : Bool) (h : ((upsC [-1, 0, 0, 0] (plL T11) 5 b).any fun d => decide ((d : Int) = a)) = r) : overF T11 a b = r := by
  rw [overF_ups T11_closed, T11_domL]; exact h
theorem T11_both : bothF T11 1 3 = 0 := by
  have hd : DomU T11 (domL T11) := by rw [T11_domL]; exact T11_dom
  have F := hd.2 T11_closed
  have hm : Meet (asU (domL T11)) 1 3 0 := by
    rw [T11_domL]
    refine ⟨.up (by decide) .refl, .up (by decide) .refl, fun z h1 h2 => ?_⟩
    rcases h1.inv with rfl | ⟨_, h1⟩
    · rcases h2.inv with e | ⟨_, h2⟩
      · omega
      · rcases h2.inv with e | ⟨h3, _⟩
        · exact absurd e (by decide)
        · exact absurd h3 (by decide)
    · exact h1
  have h1 : inP (plL T11) 1 = true := by kernel_rfl
  have h3 : inP (plL T11) 3 = true := by kernel_rfl
  unfold bothF
  rw [T11_closed, h1, h3, Bool.true_and, Bool.true_and, cond_true]
  rw [show ((1 : Int).toNat) = 1 from rfl, show ((3 : Int).toNat) = 3 from rfl, hm.eps F.tr (F.all 1 (by have : (1 : Nat) ∈ orderF T11 := List.contains_iff_mem.1 (show (orderF T11).contains 1 = true by kernel_rfl); exact this))]
  rfl
set_option maxHeartbeats 1000000 in
theorem law11_awake_ct {w : World} : Ct Tryd.prog 33 #[] w (Is (.bool true)) := by
  refine Ct.mk Tryd.func33 rfl rfl ?_
  refine Cd.seq ?_
  refine Cd.region ?_
  refine Ol.p asb ?_
  refine Ol.nil ?_
  refine Cd.seq ?_
  refine Cd.region ?_
  refine Ol.s (cl en_law11_branch (fun M w' hh => law11_branch_ct)) ?_
  refine Ol.s (cl en_law11_jump (fun M w' hh => law11_jump_ct)) ?_
  refine Ol.s (cl en_law11_jump (fun M w' hh => law11_jump_ct)) ?_
  refine Ol.p (bds (cs := #[.int .i64 4, .int .i64 0, .int .i64 0, .int .i64 0]) bs_api_Term zr_api_Term (hf := by kernel_rfl)) ?_
  refine Ol.p (bds (cs := #[.slice none 0 0, .int .i64 4, .int .i64 0, .int .i64 0, .int .i64 0]) bs_api_Block zr_api_Block (hf := by kernel_rfl)) ?_
  refine Ol.x (bsn [RBlk.val ⟨none, 0, [], ⟨2, 1, 1, 2⟩⟩, RBlk.val ⟨none, 0, [], ⟨1, 0, 3, 0⟩⟩, RBlk.val ⟨none, 0, [], ⟨1, 0, 3, 0⟩⟩, RBlk.val ⟨none, 0, [], ⟨4, 0, 0, 0⟩⟩] sl_L_api_Block zr_api_Block (by intro v hv; simp at hv; rcases hv with rfl | rfl | rfl <;> rfl) rfl (by decide) (by decide)) ?_
  rintro _ _ ⟨g7, rfl, rfl⟩
  refine Ol.p (bds (cs := #[.slice none 0 0, .slice (some ⟨g7, 0, none⟩) 4 4]) bs_api_Func zr_api_Func (hf := by kernel_rfl)) ?_
  refine Ol.x (alc zr_api_Func) ?_
  rintro _ _ ⟨g1, rfl, rfl⟩
  refine Ol.s (stw (vs := #[.slice none 0 0, .slice (some ⟨g7, 0, none⟩) 4 4]) sz_api_Func rfl (by intro u hu; simp at hu; rcases hu with rfl | rfl <;> rfl) (i := 0) rfl rfl) ?_
  refine Ol.nil ?_
  have hov : ∀ (a b : Int) (r : Bool), overF T11 a b = r → (-9223372036854775808 ≤ b ∧ b ≤ 9223372036854775807) → ∀ (w' : World), Reads w' w'.heap.size 5 (some ⟨g7, 0, none⟩) 4 ((F11 g7).blocks.flatMap RBlk.cells) → Ct Tryd.prog 36 #[(F11 g7).val, .int .i64 a, .int .i64 b] w' (Is (.bool r)) := fun a b r hr hb w' h => by
    have := dom_Over_ct (w := w') (f := F11 g7) (a := a) (b := b) (F11_at h) (F11_fit g7) hb
    rw [show (F11 g7).terms = T11 from rfl, hr] at this
    exact this
  refine Cd.seq ?_
  refine Cd.region ?_
  refine Ol.p (ldw ag_api_Func (i := 0) rfl rfl) ?_
  refine Ol.x (sp_call en_dom_Of (fun M' w' hh => dom_Of_ct (f := F11 g7) (w := w') (F11_at (Reads.row hh (i := 1) rfl)) (F11_fit g7))) ?_
  rintro _ _ ⟨_, rfl, ⟨hc, _⟩ | ⟨_, hd, gD, rfl, rfl⟩⟩; (exact absurd (T11_closed.symm.trans hc) (by simp))
  rw [show domL (F11 g7).terms = [-1, 0, 0, 0] from T11_domL]
  refine Ol.x (bsv [.int .i64 (-1), .int .i64 0, .int .i64 0, .int .i64 0] sl_L_int zr_int (by simp [Value.cells])) ?_
  rintro _ _ ⟨g11, rfl, rfl⟩
  refine Ol.s (cl en_kit_SameInts (fun M w' hh => kit_SameInts_ct (a := [-1, 0, 0, 0]) (b := [-1, 0, 0, 0]) (Reads.blk hh (k := 0) (i := 1) rfl rfl (fun j u hu => by simpa using hu)) (Reads.row hh (i := 0) rfl) (by decide) (by decide))) ?_
  refine Ol.p mvb ?_
  refine Ol.gp rfl (ldw ag_api_Func (i := 2) rfl rfl) ?_
  refine Ol.gs rfl (cl en_dom_Over (fun M w' hh => hov 0 3 true (T11_over 0 3 true (by kernel_rfl)) (by decide) w' (Reads.row hh (i := 3) rfl))) ?_
  refine Ol.p (pkTb rfl) ?_
  refine Ol.p mvb ?_
  refine Ol.gp rfl (ldw ag_api_Func (i := 2) rfl rfl) ?_
  refine Ol.gs rfl (cl en_dom_Over (fun M w' hh => hov 1 3 false (T11_over 1 3 false (by kernel_rfl)) (by decide) w' (Reads.row hh (i := 3) rfl))) ?_
  refine Ol.gp rfl noti ?_
  refine Ol.p (pkTb rfl) ?_
  refine Ol.p mvb ?_
  refine Ol.gp rfl (ldw ag_api_Func (i := 2) rfl rfl) ?_
  refine Ol.gs rfl (cl en_dom_Both (fun M w' hh => by have := dom_Both_ct (w := w') (f := F11 g7) (a := 1) (b := 3) (F11_at (Reads.row hh (i := 3) rfl)) (F11_fit g7) (by decide) (by decide); rw [show (F11 g7).terms = T11 from rfl, T11_both] at this; exact this)) ?_
  refine Ol.gp rfl eqi ?_
  refine Ol.p (pkTb rfl) ?_
  refine Ol.p asb ?_
  refine Ol.nil ?_
  exact Cd.ret ⟨.bool _, ret1 rfl rfl, [], .nil, rfl, rfl⟩
end
end Go.Proofs.YtbcnejobnmljlaaDoor

/- The law 16: its example, what is told of a block, walked. -/
namespace Go.Proofs.YtbcnejobnmljlaaDoor
set_option linter.unusedVariables false
open Go Go.RowKit
set_option maxRecDepth 100000

theorem natsI_mem {l : List Nat} {n : Nat} : (n : Int) ∈ natsI l ↔ n ∈ l := by
  unfold natsI
  rw [List.mem_map]
  exact ⟨fun ⟨m, h, e⟩ => by have : m = n := by omega
                             rwa [← this], fun h => ⟨n, h, rfl⟩⟩
theorem natsI_inj {a b : List Nat} (h : natsI a = natsI b) : a = b := by
  apply List.ext_getElem?
  intro i
  have := congrArg (fun l : List Int => (l[i]?).map Int.toNat) h
  unfold natsI at this
  simp only [List.getElem?_map, Option.map_map] at this
  simpa [Function.comp_def] using this
section
theorem kit_SameInts_nat {w : World} {A B : Option Addr} {c d : Nat} {a b : List Nat} (ha : Reads w w.heap.size 1 A a.length (intsN a)) (hb : Reads w w.heap.size 1 B b.length (intsN b)) (hal : a.length < 2 ^ 62) (hbl : b.length < 2 ^ 62) :
    Ct Tryd.prog 53 #[.slice A a.length c, .slice B b.length d] w (Is (.bool (decide (a = b)))) := by
  have h := kit_SameInts_ct (w := w) (A := A) (B := B) (c := c) (d := d) (a := natsI a) (b := natsI b) (by rw [natsI_len, natsI_ints]; exact ha) (by rw [natsI_len, natsI_ints]; exact hb) (by rw [natsI_len]; exact hal) (by rw [natsI_len]; exact hbl)
  rw [natsI_len, natsI_len] at h
  have e : decide (natsI a = natsI b) = decide (a = b) := by
    rw [decide_eq_decide]
    exact ⟨natsI_inj, fun e => by rw [e]⟩
  rwa [e] at h
end
section
def has2 (a b c : Bool) : Bool := a || (b && c)
set_option maxHeartbeats 4000000 in
theorem law16_local_ct {w : World} {b : RBlk} {A Ai Ao : Option Addr} {c ci co : Nat} {h : Heads} {xs : Nat → List Nat} {ins outs : List Nat} (hb : BlkIn w w.heap.size b) (e0 : xs 0 = ins)
    (hat : Reads w w.heap.size 1 A (b.ins.length + 1) ((List.range (b.ins.length + 1)).map fun i => .slice (h i).1 (xs i).length (h i).2))
    (hxs : ∀ i, i < b.ins.length + 1 → Reads w w.heap.size 1 (h i).1 (xs i).length (intsN (xs i)))
    (hi : Reads w w.heap.size 1 Ai ins.length (intsN ins)) (ho : Reads w w.heap.size 1 Ao outs.length (intsN outs)) (hle : ∀ i, (xs i).length < 2 ^ 60) (hoe : outs.length < 2 ^ 60)
    (hend : ∀ v : Nat, 1 ≤ v → v ≤ 200 → (v ∈ xs b.ins.length ↔ (v : Int) ∈ needsL b.term ∨ v ∈ outs))
    (hmid : ∀ (k : Nat) (i : RIns), b.ins[k]? = some i → ∀ v : Nat, 1 ≤ v → v ≤ 200 → (v ∈ xs k ↔ (v : Int) ∈ readsL i ∨ (v ∈ xs (k + 1) ∧ (v : Int) ≠ defI i))) :
    Ct Tryd.prog 41 #[b.val, .slice A (b.ins.length + 1) c, .slice Ai ins.length ci, .slice Ao outs.length co] w (Is (.bool true)) := by
  have hbl := hb.len
  have hget : ∀ i, i < b.ins.length + 1 → ((List.range (b.ins.length + 1)).map fun i => Value.slice (h i).1 (xs i).length (h i).2)[i]? = some (.slice (h i).1 (xs i).length (h i).2) := fun i hi => by rw [List.getElem?_map, List.getElem?_range hi]; rfl
  refine Ct.mk Tryd.func41 rfl rfl ?_
  refine Cd.seq ?_
  refine Cd.region ?_
  refine Ol.x bxg ?_
  rintro _ _ ⟨g4, rfl, rfl⟩
  refine Ol.p asb ?_
  refine Ol.nil ?_
  have u1 : (!decide (((b.ins.length + 1 : Nat) : Int) = (b.ins.length : Int) + 1)) = false := by simp
  refine Cd.seq ?_
  refine Cd.seq ?_
  refine Cd.region ?_
  refine Ol.p mvs ?_
  refine Ol.p (lens sl_L_L_int) ?_
  refine Ol.p (fdl fd_api_Block_0) ?_
  refine Ol.p (ld one_L_api_Ins (Rd.blk (i := 0) rfl rfl)) ?_
  refine Ol.p (lens sl_L_api_Ins) ?_
  refine Ol.p addi ?_
  refine Ol.p nei ?_
  refine Ol.p mvb ?_
  refine Ol.gp u1 mvs ?_
  refine Ol.gp u1 (ixn1 (ix := 0) sl_L_L_int (Som.slc hat (by omega))) ?_
  refine Ol.gp u1 (ld one_L_int (Rd.slc hat (hget 0 (by omega)))) ?_
  refine Ol.gp u1 mvs ?_
  refine Ol.gs u1 (cl en_kit_SameInts (fun M w' hh => kit_SameInts_nat ((hxs 0 (by omega)).now hh) (hi.now hh) (by have := hle 0; omega) (by rw [← e0]; have := hle 0; omega))) ?_
  refine Ol.gp u1 noti ?_
  refine Ol.p (pkFb u1) ?_
  refine Ol.nil ?_
  refine Cd.cond rfl (fun h => by rw [e0] at h; simp at h) (fun h => ?_)   -- $28
  refine Cd.skip ?_
  refine Cd.seq ?_
  refine Cd.seq ?_
  refine Cd.region ?_
  refine Ol.p asi ?_
  refine Ol.nil ?_
  refine Cd.block ?_   -- 0
  obtain ⟨L0, hL0⟩ : ∃ L0, L0 = [blk g4 (.cells b.cells.toArray 66)] := ⟨_, rfl⟩
  refine Cd.loop (fun m σ L => ∃ k, m = b.ins.length + 1 - k ∧ k ≤ b.ins.length + 1 ∧ Has σ [(1, .slice A (b.ins.length + 1) c), (3, .slice Ao outs.length co), (4, .pointer (some ⟨g4, 0, none⟩)), (9, .int .i64 k)] ∧ L0 = L) (n := b.ins.length + 1) ⟨0, rfl, Nat.zero_le _, ⟨rfl, rfl, rfl, rfl, trivial⟩, hL0⟩ ?_
  rintro _ σ L ⟨k, rfl, hk, hs, rfl⟩
  refine Cd.has hs ?_
  refine Cd.seq ?_
  refine Cd.seq ?_
  refine Cd.region ?_
  refine Ol.p mvi ?_
  refine Ol.p mvs ?_
  refine Ol.p (lens sl_L_L_int) ?_
  refine Ol.p lsi ?_
  refine Ol.nil ?_
  refine Cd.cond rfl (fun h => ?_) (fun h => ?_)   -- $32
  · have hlt : k < b.ins.length + 1 := by
      simp only [decide_eq_true_eq] at h; omega
    refine Cd.skip ?_
    refine Cd.seq ?_
    refine Cd.block ?_   -- 1
    refine Cd.seq ?_
    rw [hL0]
    refine Cd.region ?_
    refine Ol.p mvs ?_
    refine Ol.p ass ?_
    refine Ol.nil ?_
    refine Cd.seq ?_
    refine Cd.region ?_
    refine Ol.p (fdl fd_api_Block_1) ?_
    refine Ol.p (ldp (k := 0 + 1) (vs := b.term.cells.toArray) ag_api_Term (i := 0) rfl rfl (fun j u hu => by rw [Nat.zero_add, Nat.add_comm]; simpa [RBlk.cells] using hu)) ?_
    refine Ol.x (sp_call en_ir_Needs (fun M w' hh => ir_Needs_ct (t := b.term))) ?_
    rintro _ _ ⟨_, rfl, A38, c38, rfl, rfl⟩
    refine Ol.p ass ?_
    refine Ol.nil ?_
    refine Cd.seq ?_
    refine Cd.region ?_
    refine Ol.p asi ?_
    refine Ol.nil ?_
    refine Cd.mid (fun σ' L' => ∃ Ab cb bl Ar cr rds def_, Has σ' [(1, .slice A (b.ins.length + 1) c), (3, .slice Ao outs.length co), (4, .pointer (some ⟨g4, 0, none⟩)), (9, .int .i64 k), (10, .slice Ab bl.length cb), (11, .slice Ar rds.length cr), (12, .int .i64 def_)] ∧
      Reads w w.heap.size 1 Ab bl.length (intsN bl) ∧ bl.length < 2 ^ 60 ∧ rds.length < 2 ^ 60 ∧ (∀ v : Nat, 1 ≤ v → v ≤ 200 → decide (v ∈ xs k) = has2 (rds.contains (v : Int)) (decide (v ∈ bl)) (!decide ((v : Int) = def_))) ∧
      [row (.slice Ar rds.length cr) 3 1 rds.length (ints rds), blk g4 (.cells b.cells.toArray 66)] = L') ?_ ?_
    · refine Cd.seq ?_
      refine Cd.region ?_
      refine Ol.p mvi ?_
      refine Ol.p (fdl fd_api_Block_0) ?_
      refine Ol.p (ld one_L_api_Ins (Rd.blk (i := 1) rfl rfl)) ?_
      refine Ol.p (lens sl_L_api_Ins) ?_
      refine Ol.p lsi ?_
      refine Ol.nil ?_
      refine Cd.cond rfl (fun h => ?_) (fun h => ?_)   -- $43
      · have hki : k < b.ins.length := by
          simp only [decide_eq_true_eq] at h; omega
        obtain ⟨x, hx⟩ : ∃ x, b.ins[k]? = some x := ⟨_, List.getElem?_eq_getElem hki⟩
        have hxm := List.mem_of_getElem? hx
        have hrl := readsL_len x
        have hal := hb.alen x hxm
        refine Cd.seq ?_
        refine Cd.region ?_
        refine Ol.p mvs ?_
        refine Ol.p mvi ?_
        refine Ol.p addi ?_
        refine Ol.p (ixn1 (ix := k + 1) sl_L_L_int (Som.slc hat (by omega))) ?_
        refine Ol.p (ld one_L_int (Rd.slc hat (hget (k + 1) (by omega)))) ?_
        refine Ol.p ass ?_
        refine Ol.nil ?_
        refine Cd.seq ?_
        refine Cd.region ?_
        refine Ol.p (fdl fd_api_Block_0) ?_
        refine Ol.p (ld one_L_api_Ins (Rd.blk (i := 1) rfl rfl)) ?_
        refine Ol.p mvi ?_
        refine Ol.p (ixn (ix := k) sl_L_api_Ins (Som.slc hb.ins (by omega))) ?_
        refine Ol.p (lds (es := x.cells) ag_api_Ins hb.ins x.len (fun j u hu => ins_cell hx hu)) ?_
        refine Ol.x (sp_call en_ir_Reads (fun M w' hh => ir_Reads_ct (hb.at_ hh hxm))) ?_
        rintro _ _ ⟨_, rfl, A54, c54, rfl, rfl⟩
        refine Ol.p ass ?_
        refine Ol.nil ?_
        refine Cd.region ?_
        refine Ol.p (fdl fd_api_Block_0) ?_
        refine Ol.p (ld one_L_api_Ins (Rd.blk (i := 2) rfl rfl)) ?_
        refine Ol.p mvi ?_
        refine Ol.p (ixn (ix := k) sl_L_api_Ins (Som.slc hb.ins (by omega))) ?_
        refine Ol.p (lds (es := x.cells) ag_api_Ins hb.ins x.len (fun j u hu => ins_cell hx hu)) ?_
        refine Ol.s (cl en_ir_Defines (fun M w' hh => ir_Defines_ct (hb.at_ hh hxm))) ?_
        refine Ol.p asi ?_
        refine Ol.keep (.sub (.cons_cons _ (.cons _ (List.Sublist.refl _)))) ?_
        refine Ol.nil ?_
        refine ⟨_, _, xs (k + 1), _, _, readsL x, defI x, ⟨rfl, rfl, rfl, rfl, rfl, rfl, rfl, trivial⟩, hxs _ (by omega), hle _, by omega, fun v h1 h2 => ?_, rfl⟩
        have hm := hmid k x hx v h1 h2
        unfold has2
        rw [Bool.eq_iff_iff, decide_eq_true_iff, hm]
        simp
      · have hke : k = b.ins.length := by
          simp only [decide_eq_false_iff_not] at h; omega
        subst hke
        have hnl := needsL_len b.term
        refine Cd.skip ?_
        refine ⟨_, _, outs, _, _, needsL b.term, 0, ⟨rfl, rfl, rfl, rfl, rfl, rfl, rfl, trivial⟩, ho, hoe, by omega, fun v h1 h2 => ?_, rfl⟩
        have hm := hend v h1 h2
        unfold has2
        rw [Bool.eq_iff_iff, decide_eq_true_iff, hm]
        have : v ≠ 0 := by omega
        simp [this]
    rintro σ' _ ⟨Ab, cb, bl, Ar, cr, rds, def_, hs', hbr, hbe, hre, hv, rfl⟩
    refine Cd.has hs' ?_
    refine Cd.seq ?_
    refine Cd.region ?_
    refine Ol.p asi ?_
    refine Ol.nil ?_
    refine Cd.block ?_   -- 2
    obtain ⟨L1, hL1⟩ : ∃ L1, L1 = [row (.slice Ar rds.length cr) 3 1 rds.length (ints rds), blk g4 (.cells b.cells.toArray 66)] := ⟨_, rfl⟩
    refine Cd.loop (fun m σ L => ∃ v : Nat, m = 201 - v ∧ 1 ≤ v ∧ v ≤ 201 ∧ Has σ [(1, .slice A (b.ins.length + 1) c), (3, .slice Ao outs.length co), (4, .pointer (some ⟨g4, 0, none⟩)), (9, .int .i64 k), (10, .slice Ab bl.length cb), (11, .slice Ar rds.length cr), (12, .int .i64 def_), (13, .int .i64 v)] ∧ L1 = L) (n := 200) ⟨1, rfl, by omega, by omega, ⟨rfl, rfl, rfl, rfl, rfl, rfl, rfl, rfl, trivial⟩, hL1⟩ ?_
    clear hs hs'
    rintro _ σ L ⟨v, rfl, hv1, hv2, hs, rfl⟩
    refine Cd.has hs ?_
    refine Cd.seq ?_
    refine Cd.seq ?_
    refine Cd.region ?_
    refine Ol.p mvi ?_
    refine Ol.p lei ?_
    refine Ol.nil ?_
    refine Cd.cond rfl (fun h => ?_) (fun h => ?_)   -- $62
    · have hvl : v ≤ 200 := by
        simp only [decide_eq_true_eq] at h; omega
      have hvv := hv v hv1 hvl
      refine Cd.skip ?_
      refine Cd.seq ?_
      refine Cd.block ?_   -- 3
      refine Cd.mid (fun σ' L' => Has σ' [(1, .slice A (b.ins.length + 1) c), (3, .slice Ao outs.length co), (4, .pointer (some ⟨g4, 0, none⟩)), (9, .int .i64 k), (10, .slice Ab bl.length cb), (11, .slice Ar rds.length cr), (12, .int .i64 def_), (13, .int .i64 v), (84, .bool false)] ∧ L1 = L') ?_ ?_
      · rw [hL1]
        cases h1 : rds.contains (v : Int) with
        | true =>
          rw [h1] at hvv
          refine Cd.region ?_
          refine Ol.p mvs ?_
          refine Ol.p mvi ?_
          refine Ol.p (ixn1 (ix := k) sl_L_L_int (Som.slc hat (by omega))) ?_
          refine Ol.p (ld one_L_int (Rd.slc hat (hget k hlt))) ?_
          refine Ol.p mvi ?_
          refine Ol.s (cl en_law16_has (fun M w' hh => law16_has_nat (l := xs k) (n := v) ((hxs k hlt).now hh) (by have := hle k; omega))) ?_
          refine Ol.p mvs ?_
          refine Ol.p mvi ?_
          refine Ol.s (cl en_law16_has (fun M w' hh => law16_has_ct (l := rds) (n := (v : Int)) (Reads.row hh (i := 0) rfl) (by omega))) ?_
          refine Ol.p mvb ?_
          refine Ol.gn h1 ?_
          refine Ol.gn h1 ?_
          refine Ol.gn h1 ?_
          refine Ol.gn h1 ?_
          refine Ol.gu ?_
          refine Ol.gu ?_
          refine Ol.gu ?_
          refine Ol.gn h1 ?_
          refine Ol.p (pkTb h1) ?_
          refine Ol.p (neb bo_bool) ?_
          refine Ol.nil ?_
          exact ⟨⟨rfl, rfl, rfl, rfl, rfl, rfl, rfl, rfl, by show Value.bool _ = _; rw [hvv]; simp [has2], trivial⟩, rfl⟩
        | false =>
          rw [h1] at hvv
          cases h2 : decide (v ∈ bl) with
          | true =>
            rw [h2] at hvv
            refine Cd.region ?_
            refine Ol.p mvs ?_
            refine Ol.p mvi ?_
            refine Ol.p (ixn1 (ix := k) sl_L_L_int (Som.slc hat (by omega))) ?_
            refine Ol.p (ld one_L_int (Rd.slc hat (hget k hlt))) ?_
            refine Ol.p mvi ?_
            refine Ol.s (cl en_law16_has (fun M w' hh => law16_has_nat (l := xs k) (n := v) ((hxs k hlt).now hh) (by have := hle k; omega))) ?_
            refine Ol.p mvs ?_
            refine Ol.p mvi ?_
            refine Ol.s (cl en_law16_has (fun M w' hh => law16_has_ct (l := rds) (n := (v : Int)) (Reads.row hh (i := 0) rfl) (by omega))) ?_
            refine Ol.p mvb ?_
            refine Ol.gp h1 mvs ?_
            refine Ol.gp h1 mvi ?_
            refine Ol.gs h1 (cl en_law16_has (fun M w' hh => law16_has_nat (l := bl) (n := v) (hbr.now hh) (by omega))) ?_
            refine Ol.gp h1 mvb ?_
            refine Ol.gp h2 mvi ?_
            refine Ol.gp h2 mvi ?_
            refine Ol.gp h2 nei ?_
            refine Ol.gp h1 (pkTb h2) ?_
            refine Ol.p (pkFb h1) ?_
            refine Ol.p (neb bo_bool) ?_
            refine Ol.nil ?_
            exact ⟨⟨rfl, rfl, rfl, rfl, rfl, rfl, rfl, rfl, by show Value.bool _ = _; rw [hvv]; simp [has2], trivial⟩, rfl⟩
          | false =>
            rw [h2] at hvv
            refine Cd.region ?_
            refine Ol.p mvs ?_
            refine Ol.p mvi ?_
            refine Ol.p (ixn1 (ix := k) sl_L_L_int (Som.slc hat (by omega))) ?_
            refine Ol.p (ld one_L_int (Rd.slc hat (hget k hlt))) ?_
            refine Ol.p mvi ?_
            refine Ol.s (cl en_law16_has (fun M w' hh => law16_has_nat (l := xs k) (n := v) ((hxs k hlt).now hh) (by have := hle k; omega))) ?_
            refine Ol.p mvs ?_
            refine Ol.p mvi ?_
            refine Ol.s (cl en_law16_has (fun M w' hh => law16_has_ct (l := rds) (n := (v : Int)) (Reads.row hh (i := 0) rfl) (by omega))) ?_
            refine Ol.p mvb ?_
            refine Ol.gp h1 mvs ?_
            refine Ol.gp h1 mvi ?_
            refine Ol.gs h1 (cl en_law16_has (fun M w' hh => law16_has_nat (l := bl) (n := v) (hbr.now hh) (by omega))) ?_
            refine Ol.gp h1 mvb ?_
            refine Ol.gn h2 ?_
            refine Ol.gn h2 ?_
            refine Ol.gn h2 ?_
            refine Ol.gp h1 (pkFb h2) ?_
            refine Ol.p (pkFb h1) ?_
            refine Ol.p (neb bo_bool) ?_
            refine Ol.nil ?_
            exact ⟨⟨rfl, rfl, rfl, rfl, rfl, rfl, rfl, rfl, by show Value.bool _ = _; rw [hvv]; simp [has2], trivial⟩, rfl⟩
      rintro σ' _ ⟨hs', rfl⟩
      refine Cd.has hs' ?_
      refine Cd.cond rfl (fun h => by cases h) (fun h => ?_)   -- $84
      refine Cd.skip ?_
      refine Cd.region ?_
      refine Ol.p mvi ?_
      refine Ol.p addi ?_
      refine Ol.p asi ?_
      refine Ol.nil ?_
      exact ⟨201 - (v + 1), by omega, v + 1, rfl, by omega, by omega, ⟨rfl, rfl, rfl, rfl, rfl, rfl, rfl, rfl, trivial⟩, rfl⟩
    refine Cd.exit (id := 2) ?_
    rw [hL1]
    refine Cd.region ?_
    refine Ol.p mvi ?_
    refine Ol.p addi ?_
    refine Ol.p asi ?_
    refine Ol.keep (.sub (.cons _ (List.Sublist.refl _))) ?_
    refine Ol.nil ?_
    exact ⟨b.ins.length + 1 - (k + 1), by omega, k + 1, rfl, by omega, ⟨rfl, rfl, rfl, rfl, trivial⟩, rfl⟩
  refine Cd.exit (id := 0) ?_
  refine Cd.seq ?_
  refine Cd.region ?_
  refine Ol.p asb ?_
  refine Ol.nil ?_
  exact Cd.ret ⟨.bool _, ret1 rfl rfl, [], .nil, rfl, rfl⟩
end
section
theorem law16_add_ct {w : World} {d a b : Int} : Ct Tryd.prog 67 #[.int .i64 d, .int .i64 a, .int .i64 b] w (Is (RIns.val ⟨2, d, a, b, 0, 0, none, 0, [], 0⟩)) := by
  refine Ct.mk Tryd.func67 rfl rfl ?_
  refine Cd.seq ?_
  refine Cd.region ?_
  refine Ol.x (alc zr_api_Ins) ?_
  rintro _ _ ⟨g6, rfl, rfl⟩
  refine Ol.nil ?_
  refine Cd.seq ?_
  refine Cd.region ?_
  refine Ol.p mvi ?_
  refine Ol.p mvi ?_
  refine Ol.p mvi ?_
  refine Ol.p (bds (cs := (RIns.cells ⟨2, d, a, b, 0, 0, none, 0, [], 0⟩).toArray) bs_api_Ins zr_api_Ins (hf := by kernel_rfl)) ?_
  refine Ol.s (stw (vs := (RIns.cells ⟨2, d, a, b, 0, 0, none, 0, [], 0⟩).toArray) sz_api_Ins rfl (RIns.one _) (i := 0) rfl rfl) ?_
  refine Ol.nil ?_
  refine Cd.ret ⟨_, retc rfl ag_api_Ins rfl (i := 0) rfl rfl, [], .nil, rfl, rfl⟩
def I16 : List RIns := [⟨1, 1, 0, 0, 5, 0, none, 0, [], 0⟩, ⟨2, 2, 1, 1, 0, 0, none, 0, [], 0⟩]
def B16 (gi : Nat) : RBlk := ⟨some ⟨gi, 0, none⟩, 2, I16, ⟨3, 2, 0, 0⟩⟩
def F16 (gb gi : Nat) : RFun := ⟨none, 0, [], some ⟨gb, 0, none⟩, 1, [B16 gi]⟩
theorem F16_fit (gb gi : Nat) : Fit (F16 gb gi) := by
  constructor <;> simp [F16, B16, I16]
theorem F16_at {w : World} {B gb gi : Nat} (h : Reads w B 5 (some ⟨gb, 0, none⟩) 1 ((F16 gb gi).blocks.flatMap RBlk.cells)) (hi : Reads w B 8 (some ⟨gi, 0, none⟩) 2 (I16.flatMap RIns.cells)) : FunAt w B (F16 gb gi) := by
  refine ⟨Reads.no, h, ?_, ?_⟩
  · intro b hb
    simp [F16] at hb
    subst hb
    exact hi
  · intro b hb i hi
    simp [F16] at hb
    subst hb
    simp [B16, I16] at hi
    rcases hi with rfl | rfl <;> exact Reads.no
theorem F16_right (gb gi : Nat) : rightF (F16 gb gi) = 0 := by
  rw [rightF_iff]
  refine ⟨by kernel_rfl, by kernel_rfl, by kernel_rfl, ?_, ?_⟩
  · have : (0 : Nat) ∈ orderF (F16 gb gi).terms := List.contains_iff_mem.1 (show (orderF [(⟨3, 2, 0, 0⟩ : Tm)]).contains 0 = true by kernel_rfl)
    exact List.length_pos_of_mem this
  · rw [valuedF_iff]
    intro b x v hx he
    have h0 : b = 0 := by
      have := (List.getElem?_eq_some_iff.1 hx).1
      simp [F16] at this; exact this
    subst h0
    have hxe : x = B16 gi := by simpa [F16] using hx.symm
    subst hxe
    exfalso
    unfold exposed at he
    have e1 : readsL ⟨1, 1, 0, 0, 5, 0, none, 0, [], 0⟩ = [] := by kernel_rfl
    have e2 : readsL ⟨2, 2, 1, 1, 0, 0, none, 0, [], 0⟩ = [1, 1] := by kernel_rfl
    have e3 : defI ⟨1, 1, 0, 0, 5, 0, none, 0, [], 0⟩ = 1 := by kernel_rfl
    have e4 : defI ⟨2, 2, 1, 1, 0, 0, none, 0, [], 0⟩ = 2 := by kernel_rfl
    have e5 : needsL ⟨3, 2, 0, 0⟩ = [2] := by kernel_rfl
    simp [B16, I16, exposed, e1, e2, e3, e4, e5] at he
    omega
theorem F16_out (gb gi : Nat) : lvO (F16 gb gi) = fun _ => 0 := by
  refine (lvO_eq (fun _ => zero_sm) fun b v => ?_).symm
  constructor
  · intro h; simp at h
  · rintro ⟨x, to, hx, ht, _⟩
    have h0 : b = 0 := by
      have := (List.getElem?_eq_some_iff.1 hx).1
      simp [F16] at this; exact this
    subst h0
    have hxe : x = B16 gi := by simpa [F16] using hx.symm
    subst hxe
    have : toL (B16 gi).term = [] := by kernel_rfl
    rw [this] at ht
    cases ht
theorem F16_atL (gb gi : Nat) (i : Nat) {l : List Nat} (h : listS (ptAt I16 (endS ⟨none, 0, I16, ⟨3, 2, 0, 0⟩⟩ 0) i) = l) : atL (F16 gb gi) 0 i = l := by
  unfold atL
  rw [F16_out]
  exact h
theorem F16_most (gb gi : Nat) : mostTo (F16 gb gi) 1 = 1 := by
  show max 0 (manyP (B16 gi) (lvO (F16 gb gi) 0) 3) = 1
  rw [F16_out]
  kernel_rfl
set_option maxHeartbeats 4000000 in
theorem law16_awake_ct {w : World} (hT : Tabs w w.heap.size) : Ct Tryd.prog 37 #[] w (Is (.bool true)) := by
  refine Ct.mk Tryd.func37 rfl rfl ?_
  refine Cd.seq ?_
  refine Cd.region ?_
  refine Ol.p asb ?_
  refine Ol.nil ?_
  refine Cd.seq ?_
  refine Cd.region ?_
  refine Ol.p (bds (cs := (RIns.cells ⟨1, 1, 0, 0, 5, 0, none, 0, [], 0⟩).toArray) bs_api_Ins zr_api_Ins (hf := by kernel_rfl)) ?_
  refine Ol.s (cl en_law16_add (fun M w' hh => law16_add_ct)) ?_
  refine Ol.x (bsn [RIns.val ⟨1, 1, 0, 0, 5, 0, none, 0, [], 0⟩, RIns.val ⟨2, 2, 1, 1, 0, 0, none, 0, [], 0⟩] sl_L_api_Ins zr_api_Ins (by intro v hv; simp at hv; rcases hv with rfl | rfl <;> rfl) rfl (by decide) (by decide)) ?_
  rintro _ _ ⟨gi, rfl, rfl⟩
  refine Ol.p (bds (cs := #[.int .i64 3, .int .i64 2, .int .i64 0, .int .i64 0]) bs_api_Term zr_api_Term (hf := by kernel_rfl)) ?_
  refine Ol.p (bds (cs := #[.slice (some ⟨gi, 0, none⟩) 2 2, .int .i64 3, .int .i64 2, .int .i64 0, .int .i64 0]) bs_api_Block zr_api_Block (hf := by kernel_rfl)) ?_
  refine Ol.x (bsn [RBlk.val (B16 gi)] sl_L_api_Block zr_api_Block (by intro v hv; simp at hv; subst hv; rfl) rfl (by decide) (by decide)) ?_
  rintro _ _ ⟨gb, rfl, rfl⟩
  refine Ol.p (bds (cs := #[.slice none 0 0, .slice (some ⟨gb, 0, none⟩) 1 1]) bs_api_Func zr_api_Func (hf := by kernel_rfl)) ?_
  refine Ol.x (alc zr_api_Func) ?_
  rintro _ _ ⟨g1, rfl, rfl⟩
  refine Ol.s (stw (vs := #[.slice none 0 0, .slice (some ⟨gb, 0, none⟩) 1 1]) sz_api_Func rfl (by intro u hu; simp at hu; rcases hu with rfl | rfl <;> rfl) (i := 0) rfl rfl) ?_
  refine Ol.nil ?_
  refine Cd.seq ?_
  refine Cd.region ?_
  refine Ol.p (ldw ag_api_Func (i := 0) rfl rfl) ?_
  refine Ol.x (sp_call en_live_Of (fun M w' hh => live_Of_ct (f := F16 gb gi) (hT.now hh) (F16_at (Reads.row hh (i := 1) rfl) (Reads.row hh (i := 2) rfl)) (F16_fit gb gi))) ?_
  rintro _ _ ⟨_, rfl, ⟨hr, _, _⟩ | ⟨hr, A1, c1, A2, c2, A3, c3, rs, hrs, rfl, rfl⟩⟩; (exact absurd (F16_right gb gi) hr)
  obtain ⟨t, ht1, ht2, ht3, ht4⟩ := lv_at (e := 3) (el := 22) (f := F16 gb gi) (b := 0) (rs := rs) (by rw [hrs]; exact Nat.one_pos)
  obtain ⟨rx, hrx⟩ : ∃ rx, rx = lvAll 3 22 (F16 gb gi) rs := ⟨_, rfl⟩
  have hpt : ptsN (F16 gb gi) 0 = 3 := rfl
  rw [← hrx] at ht4 ⊢
  obtain ⟨it, hit⟩ := List.mem_iff_getElem?.1 (ht4 _ (List.mem_cons_self ..))
  have hrow : ∀ q, q < 3 → ∃ iq, rx[iq]? = some (atRow 3 (F16 gb gi) 0 t.h q) := fun q hq => List.mem_iff_getElem?.1 (ht4 _ (List.mem_append_right _ (atRows_mem (by omega) (by omega) (Nat.le_refl _))))
  obtain ⟨i1, hi1⟩ := hrow 1 (by omega)
  obtain ⟨i2, hi2⟩ := hrow 2 (by omega)
  have e0 := F16_atL gb gi 0 (l := []) (by kernel_rfl)
  have e1 := F16_atL gb gi 1 (l := [1]) (by kernel_rfl)
  have e2 := F16_atL gb gi 2 (l := [2]) (by kernel_rfl)
  have v0 := atVs_get (f := F16 gb gi) (b := 0) (h := t.h) (i := 0) (by omega)
  have v1 := atVs_get (f := F16 gb gi) (b := 0) (h := t.h) (i := 1) (by omega)
  have v2 := atVs_get (f := F16 gb gi) (b := 0) (h := t.h) (i := 2) (by omega)
  unfold atRow at hi1 hi2
  unfold atV at v0 v1 v2 hi1 hi2
  rw [e0] at v0
  rw [e1] at v1 hi1
  rw [e2] at v2 hi2
  rw [hpt] at hit ht3 v0 v1 v2
  refine Ol.keep Keep.comm ?_
  refine Ol.p mvt ?_
  refine Ol.p extv ?_
  refine Ol.p extv ?_
  refine Ol.x (alc zr_live_Live) ?_
  rintro _ _ ⟨g2, rfl, rfl⟩
  refine Ol.s (stw (vs := #[.slice A1 1 c1, .slice A2 1 c2, .slice A3 1 c3]) sz_live_Live rfl (by intro u hu; simp at hu; rcases hu with rfl | rfl | rfl <;> rfl) (i := 0) rfl rfl) ?_
  refine Ol.p asi ?_
  refine Ol.nil ?_
  refine Cd.seq ?_
  refine Cd.region ?_
  refine Ol.p mvi ?_
  refine Ol.p eqi ?_
  refine Ol.p mvb ?_
  refine Ol.gp rfl (fdl fd_live_Live_2) ?_
  refine Ol.gp rfl (ld one_L_L_L_int (Rd.blk (i := 0) rfl rfl)) ?_
  refine Ol.gp rfl (lens sl_L_L_L_int) ?_
  refine Ol.gp rfl eqi ?_
  refine Ol.p (pkTb rfl) ?_
  refine Ol.p mvb ?_
  refine Ol.gp rfl (fdl fd_live_Live_2) ?_
  refine Ol.gp rfl (ld one_L_L_L_int (Rd.blk (i := 0) rfl rfl)) ?_
  refine Ol.gp rfl (ixn1 (ix := 0) sl_L_L_L_int (Som.row (i := 6) rfl Nat.one_pos)) ?_
  refine Ol.gp rfl (ld one_L_L_int (Rd.row (i := 6) rfl ht3)) ?_
  refine Ol.gp rfl (lens sl_L_L_int) ?_
  refine Ol.gp rfl eqi ?_
  refine Ol.p (pkTb rfl) ?_
  refine Ol.p mvb ?_
  refine Ol.gp rfl (fdl fd_live_Live_2) ?_
  refine Ol.gp rfl (ld one_L_L_L_int (Rd.blk (i := 0) rfl rfl)) ?_
  refine Ol.gp rfl (ixn1 (ix := 0) sl_L_L_L_int (Som.row (i := 6) rfl Nat.one_pos)) ?_
  refine Ol.gp rfl (ld one_L_L_int (Rd.row (i := 6) rfl ht3)) ?_
  refine Ol.gp rfl (ixn1 (ix := 0) sl_L_L_int Som.lit) ?_
  refine Ol.gp rfl (ld one_L_int (Rd.row (i := it + 7) hit v0)) ?_
  refine Ol.gp rfl (lens sl_L_int) ?_
  refine Ol.gp rfl eqi ?_
  refine Ol.p (pkTb rfl) ?_
  refine Ol.p mvb ?_
  refine Ol.gp rfl (fdl fd_live_Live_2) ?_
  refine Ol.gp rfl (ld one_L_L_L_int (Rd.blk (i := 0) rfl rfl)) ?_
  refine Ol.gp rfl (ixn1 (ix := 0) sl_L_L_L_int (Som.row (i := 6) rfl Nat.one_pos)) ?_
  refine Ol.gp rfl (ld one_L_L_int (Rd.row (i := 6) rfl ht3)) ?_
  refine Ol.gp rfl (ixn1 (ix := 1) sl_L_L_int Som.lit) ?_
  refine Ol.gp rfl (ld one_L_int (Rd.row (i := it + 7) hit v1)) ?_
  refine Ol.gx rfl (bsv [.int .i64 1] sl_L_int zr_int (by simp [Value.cells])) ?_
  rintro _ _ ⟨g49, rfl, rfl⟩
  refine Ol.gs rfl (cl en_kit_SameInts (fun M w' hh => kit_SameInts_nat (a := [1]) (b := [1]) (Reads.row hh (i := i1 + 8) hi1) (Reads.row hh (i := 0) rfl) (by decide) (by decide))) ?_
  refine Ol.p (pkTb rfl) ?_
  refine Ol.p mvb ?_
  refine Ol.gp rfl (fdl fd_live_Live_2) ?_
  refine Ol.gp rfl (ld one_L_L_L_int (Rd.blk (i := 1) rfl rfl)) ?_
  refine Ol.gp rfl (ixn1 (ix := 0) sl_L_L_L_int (Som.row (i := 7) rfl Nat.one_pos)) ?_
  refine Ol.gp rfl (ld one_L_L_int (Rd.row (i := 7) rfl ht3)) ?_
  refine Ol.gp rfl (ixn1 (ix := 2) sl_L_L_int Som.lit) ?_
  refine Ol.gp rfl (ld one_L_int (Rd.row (i := it + 8) hit v2)) ?_
  refine Ol.gx rfl (bsv [.int .i64 2] sl_L_int zr_int (by simp [Value.cells])) ?_
  rintro _ _ ⟨g59, rfl, rfl⟩
  refine Ol.gs rfl (cl en_kit_SameInts (fun M w' hh => kit_SameInts_nat (a := [2]) (b := [2]) (Reads.row hh (i := i2 + 9) hi2) (Reads.row hh (i := 0) rfl) (by decide) (by decide))) ?_
  refine Ol.p (pkTb rfl) ?_
  refine Ol.p mvb ?_
  refine Ol.gp rfl (ldw ag_api_Func (i := 3) rfl rfl) ?_
  refine Ol.gs rfl (cl en_live_Most (fun M w' hh => live_Most_ct (f := F16 gb gi) (F16_at (Reads.row hh (i := 4) rfl) (Reads.row hh (i := 5) rfl)) (F16_fit gb gi))) ?_
  refine Ol.gp rfl eqi ?_
  refine Ol.p (pkTb rfl) ?_
  refine Ol.p asb ?_
  refine Ol.nil ?_
  refine Cd.ret ⟨.bool _, ret1 rfl rfl, [], .nil, ?_, rfl⟩
  rw [if_pos (F16_right gb gi), show (F16 gb gi).blocks.length = 1 from rfl, F16_most]
  rfl
end
end Go.Proofs.YtbcnejobnmljlaaDoor

/- Plain laws on what is told to be live; where it lies. -/
namespace Go.Proofs.YtbcnejobnmljlaaDoor
set_option linter.unusedVariables false
open Go Go.RowKit
set_option maxRecDepth 10000

theorem ex_bits {p : Nat → Prop} (hp : ∀ v, p v → v < 1024) : ∃ s, Sm s ∧ ∀ v, s.testBit v = true ↔ p v := by
  classical
  refine ⟨withL 0 (((List.range 1024).filter fun v => decide (p v)).map fun n : Nat => (n : Int)), withL_sm zero_sm, fun v => ?_⟩
  rw [testBit_withL]
  simp only [Nat.zero_testBit, Bool.false_or, Bool.and_eq_true, okN_iff, List.contains_eq_mem, decide_eq_true_eq, List.mem_map, List.mem_filter, List.mem_range]
  constructor
  · rintro ⟨_, m, ⟨hm, hpm⟩, e⟩
    have : m = v := by omega
    rwa [this] at hpm
  · intro h
    have := hp v h
    exact ⟨by omega, v, ⟨this, h⟩, rfl⟩
theorem Lv.range {f : RFun} {v b : Nat} (h : Lv f v b) : 1 ≤ v ∧ v ≤ 200 := by
  induction h with
  | here _ he => have := exposed_range he; omega
  | thru _ _ _ _ ih => exact ih
theorem lvI_bit {f : RFun} {b v : Nat} : (lvI f b).testBit v = true ↔ Lv f v b := by
  have := Classical.epsilon_spec (p := fun s => Sm s ∧ ∀ v, s.testBit v = true ↔ Lv f v b) (ex_bits fun v h => by have := h.range; omega)
  exact this.2 v
theorem lvO_bit {f : RFun} {b v : Nat} : (lvO f b).testBit v = true ↔ Lo f v b := by
  have := Classical.epsilon_spec (p := fun s => Sm s ∧ ∀ v, s.testBit v = true ↔ Lo f v b) (ex_bits fun v ⟨_, _, _, _, h⟩ => by have := h.range; omega)
  exact this.2 v
theorem lvI_sm {f : RFun} {b : Nat} : Sm (lvI f b) := (Classical.epsilon_spec (p := fun s => Sm s ∧ ∀ v, s.testBit v = true ↔ Lv f v b) (ex_bits fun v h => by have := h.range; omega)).1
theorem lvO_sm {f : RFun} {b : Nat} : Sm (lvO f b) := (Classical.epsilon_spec (p := fun s => Sm s ∧ ∀ v, s.testBit v = true ↔ Lo f v b) (ex_bits fun v ⟨_, _, _, _, h⟩ => by have := h.range; omega)).1
theorem mem_inL {f : RFun} {b v : Nat} : v ∈ inL f b ↔ Lv f v b := by
  unfold inL
  rw [mem_listS, lvI_bit]
  exact ⟨fun h => h.2, fun h => ⟨by have := h.range; omega, h⟩⟩
theorem mem_outL {f : RFun} {b v : Nat} : v ∈ outL f b ↔ Lo f v b := by
  unfold outL
  rw [mem_listS, lvO_bit]
  exact ⟨fun h => h.2, fun h => ⟨by obtain ⟨_, _, _, _, h⟩ := h; have := h.range; omega, h⟩⟩
theorem lvI_pre {f : RFun} {b : Nat} {x : RBlk} (hb : f.blocks[b]? = some x) : lvI f b = pre0 x (lvO f b) := by
  apply Nat.eq_of_testBit_eq
  intro v
  by_cases hv : v < 1024
  · rw [Bool.eq_iff_iff, lvI_bit, bit_pre0 hv, lvO_bit]
    constructor
    · intro h
      cases h with
      | here hy he => rw [hb] at hy; cases hy; exact .inl he
      | thru hy hd ht hl => rw [hb] at hy; cases hy; exact .inr ⟨⟨_, _, hb, ht, hl⟩, hd⟩
    · rintro (h | ⟨⟨y, to, hy, ht, hl⟩, hd⟩)
      · exact .here hb h
      · rw [hb] at hy; cases hy
        exact .thru hb hd ht hl
  · rw [lvI_sm v (by omega), pre0_sm lvO_sm v (by omega)]
theorem atL_eq {f : RFun} {b i : Nat} {x : RBlk} (hb : f.blocks[b]? = some x) : atL f b i = listS (ptAt x.ins (endS x (lvO f b)) i) := by unfold atL; rw [hb]
theorem atL_zero {f : RFun} {b : Nat} {x : RBlk} (hb : f.blocks[b]? = some x) : atL f b 0 = inL f b := by rw [atL_eq hb]; unfold inL; rw [lvI_pre hb]; rfl
theorem atL_lt {f : RFun} {b i : Nat} : (atL f b i).length < 2 ^ 60 := by
  unfold atL
  split
  · have := listS_len_le (ptAt (‹RBlk›).ins (endS ‹RBlk› (lvO f b)) i); omega
  · simp
theorem inL_lt {f : RFun} {b : Nat} : (inL f b).length < 2 ^ 60 := by have := listS_len_le (lvI f b); unfold inL; omega
theorem outL_lt {f : RFun} {b : Nat} : (outL f b).length < 2 ^ 60 := by have := listS_len_le (lvO f b); unfold outL; omega
theorem atL_end {f : RFun} {b : Nat} {x : RBlk} (hb : f.blocks[b]? = some x) (v : Nat) (h1 : 1 ≤ v) (h2 : v ≤ 200) : v ∈ atL f b x.ins.length ↔ (v : Int) ∈ needsL x.term ∨ v ∈ outL f b := by
  rw [atL_eq hb, ptAt_end, mem_listS, bit_end (by omega)]
  unfold outL
  rw [mem_listS]
  constructor
  · rintro ⟨h3, h4 | h4⟩
    · exact .inr ⟨h3, h4⟩
    · exact .inl h4
  · rintro (h4 | h4)
    · exact ⟨by omega, .inr h4⟩
    · exact ⟨by omega, .inl h4.2⟩
theorem atL_mid {f : RFun} {b : Nat} {x : RBlk} (hb : f.blocks[b]? = some x) (k : Nat) (i : RIns) (hi : x.ins[k]? = some i) (v : Nat) (h1 : 1 ≤ v) (h2 : v ≤ 200) : v ∈ atL f b k ↔ (v : Int) ∈ readsL i ∨ (v ∈ atL f b (k + 1) ∧ (v : Int) ≠ defI i) := by
  rw [atL_eq hb, atL_eq hb, ptAt_at hi, mem_listS, bit_ahead (by omega), mem_listS]
  constructor
  · rintro ⟨h3, h4 | ⟨h4, h5⟩⟩
    · exact .inl h4
    · exact .inr ⟨⟨h3, h4⟩, fun e => h5 e.symm⟩
  · rintro (h4 | ⟨h4, h5⟩)
    · exact ⟨by omega, .inl h4⟩
    · exact ⟨by omega, .inr ⟨h4.2, fun e => h5 e.symm⟩⟩
theorem atVs_all {f : RFun} {b : Nat} {h : Heads} {n : Nat} (hn : ptsN f b = n) : atVs f b h n = (List.range n).map fun i => Value.slice (h i).1 (atL f b i).length (h i).2 := by
  unfold atVs
  rw [hn]
  apply List.map_congr_left
  intro i _
  rw [if_pos (by omega)]; rfl
/-- What is told of a block, among what is held. -/
theorem lv_in {e el ea : TypeId} {f : RFun} {A1 A2 A3 : Option Addr} {c1 c2 c3 n : Nat} {rs : List LvRec} {LV : List Res} (hLV : LV = [row (.slice A1 n c1) el 1 n (inVs f rs), row (.slice A2 n c2) el 1 n (outVs f rs), row (.slice A3 n c3) ea 1 n (atVV f rs)] ++ lvAll e el f rs) {b : Nat} {x : RBlk} (hb : f.blocks[b]? = some x) (hrs : rs.length = f.blocks.length) :
    ∃ t : LvRec, (inVs f rs)[b]? = some (.slice t.iA (inL f b).length t.iC) ∧ (outVs f rs)[b]? = some (.slice t.oA (outL f b).length t.oC) ∧ (atVV f rs)[b]? = some (.slice (some ⟨t.g, 0, none⟩) (x.ins.length + 1) (x.ins.length + 1)) ∧
      (∃ i : Nat, LV[i]? = some (row (.slice t.iA (inL f b).length t.iC) e 1 (inL f b).length (intsN (inL f b)))) ∧ (∃ i : Nat, LV[i]? = some (row (.slice t.oA (outL f b).length t.oC) e 1 (outL f b).length (intsN (outL f b)))) ∧
      (∃ i : Nat, LV[i]? = some (row (.slice (some ⟨t.g, 0, none⟩) (x.ins.length + 1) (x.ins.length + 1)) el 1 (x.ins.length + 1) ((List.range (x.ins.length + 1)).map fun i => Value.slice (t.h i).1 (atL f b i).length (t.h i).2))) ∧
      ∀ q, q < x.ins.length + 1 → ∃ i : Nat, LV[i]? = some (row (.slice (t.h q).1 (atL f b q).length (t.h q).2) e 1 (atL f b q).length (intsN (atL f b q))) := by
  obtain ⟨t, h1, h2, h3, h4⟩ := lv_at (e := e) (el := el) (f := f) (b := b) (rs := rs) (by rw [hrs]; exact (List.getElem?_eq_some_iff.1 hb).1)
  have hpt : ptsN f b = x.ins.length + 1 := by unfold ptsN; rw [hb]
  have hm : ∀ r ∈ trB e el f b t, ∃ i : Nat, LV[i]? = some r := fun r hr => by
    rw [hLV]
    exact List.mem_iff_getElem?.1 (List.mem_append_right _ (h4 r hr))
  rw [hpt] at h3
  refine ⟨t, h1, h2, h3, hm _ ?_, hm _ ?_, ?_, fun q hq => hm _ ?_⟩
  · unfold trB; simp
  · unfold trB; simp
  · obtain ⟨i, hi⟩ := hm (row (.slice (some ⟨t.g, 0, none⟩) (ptsN f b) (ptsN f b)) el 1 (ptsN f b) (atVs f b t.h (ptsN f b))) (by unfold trB; simp)
    rw [hpt, atVs_all hpt] at hi
    exact ⟨i, hi⟩
  · exact List.mem_append_right _ (atRows_mem (by omega) (by omega) (Nat.le_refl _))
/-- A way is gone: what is needed later on it is live. -/
theorem exposed_read : ∀ {l : List RIns} {t : Tm} {v : Int}, exposed l t v = true → (∃ i ∈ l, v ∈ readsL i) ∨ v ∈ needsL t
  | [], t, v, h => .inr (by simpa [exposed] using h)
  | i :: l, t, v, h => by
    unfold exposed at h
    rw [Bool.or_eq_true, Bool.and_eq_true] at h
    rcases h with h | ⟨_, h⟩
    · exact .inl ⟨i, by simp, by simpa using h⟩
    · rcases exposed_read h with ⟨j, hj, h2⟩ | h2
      · exact .inl ⟨j, by simp [hj], h2⟩
      · exact .inr h2
/-- A variable is read somewhere. -/
def ReadAt (f : RFun) (v : Nat) : Prop := ∃ x ∈ f.blocks, (∃ i ∈ x.ins, (v : Int) ∈ readsL i) ∨ (v : Int) ∈ needsL x.term
theorem Lv.read {f : RFun} {v b : Nat} (h : Lv f v b) : ReadAt f v := by
  induction h with
  | here hb he => exact ⟨_, List.mem_of_getElem? hb, exposed_read he⟩
  | thru _ _ _ _ ih => exact ih
theorem ptAt_range {f : RFun} {b v : Nat} {x : RBlk} (hb : f.blocks[b]? = some x) : ∀ {k : Nat}, k ≤ x.ins.length → v ∈ atL f b (x.ins.length - k) → (1 ≤ v ∧ v ≤ 200) ∧ ReadAt f v
  | 0, _, h => by
    rw [atL_eq hb, Nat.sub_zero, ptAt_end, mem_listS] at h
    have h3 := h.2
    rw [bit_end h.1] at h3
    rcases h3 with h1 | h1
    · obtain ⟨_, _, _, _, h2⟩ := lvO_bit.1 h1
      exact ⟨h2.range, h2.read⟩
    · have := needsL_mem h1
      exact ⟨by omega, x, List.mem_of_getElem? hb, .inr h1⟩
  | k + 1, hk, h => by
    obtain ⟨i, hi⟩ : ∃ i, x.ins[x.ins.length - (k + 1)]? = some i := ⟨_, List.getElem?_eq_getElem (by omega)⟩
    have h0 := h
    rw [atL_eq hb, ptAt_at hi, mem_listS] at h
    have h1 := h.2
    rw [bit_ahead h.1] at h1
    rcases h1 with h1 | ⟨h1, _⟩
    · have := readsL_mem h1
      exact ⟨by omega, x, List.mem_of_getElem? hb, .inl ⟨i, List.mem_of_getElem? hi, h1⟩⟩
    · refine ptAt_range hb (k := k) (by omega) ?_
      rw [atL_eq hb, show x.ins.length - k = x.ins.length - (k + 1) + 1 by omega, mem_listS]
      exact ⟨h.1, h1⟩
theorem atL_read {f : RFun} {b v i : Nat} {x : RBlk} (hb : f.blocks[b]? = some x) (hi : i ≤ x.ins.length) (h : v ∈ atL f b i) : (1 ≤ v ∧ v ≤ 200) ∧ ReadAt f v :=
  ptAt_range hb (k := x.ins.length - i) (by omega) (by rw [show x.ins.length - (x.ins.length - i) = i by omega]; exact h)
/-- How many are live at the i first points of a block. -/
noncomputable def mostA (f : RFun) (b i : Nat) : Nat := (List.range i).foldl (fun m j => max m (atL f b j).length) 0
theorem mostA_succ (f : RFun) (b i : Nat) : mostA f b (i + 1) = max (mostA f b i) (atL f b i).length := by
  unfold mostA
  rw [List.range_succ, List.foldl_append]; rfl
theorem mostA_le {f : RFun} {b B : Nat} : ∀ {i : Nat}, mostA f b i ≤ B ↔ ∀ j, j < i → (atL f b j).length ≤ B
  | 0 => by simp [mostA]
  | i + 1 => by
    rw [mostA_succ, Nat.max_le, mostA_le]
    constructor
    · rintro ⟨h1, h2⟩ j hj
      rcases Nat.lt_or_ge j i with h | h
      · exact h1 j h
      · have : j = i := by omega
        rw [this]; exact h2
    · exact fun h => ⟨fun j hj => h j (by omega), h i (by omega)⟩
theorem manyP_le {x : RBlk} {o B : Nat} : ∀ {k : Nat}, manyP x o k ≤ B ↔ ∀ j, j < k → (listS (ptAt x.ins (endS x o) (x.ins.length - j))).length ≤ B
  | 0 => by simp [manyP]
  | k + 1 => by
    rw [manyP_succ, Nat.max_le, manyP_le]
    constructor
    · rintro ⟨h1, h2⟩ j hj
      rcases Nat.lt_or_ge j k with h | h
      · exact h1 j h
      · have : j = k := by omega
        rw [this]; exact h2
    · exact fun h => ⟨fun j hj => h j (by omega), h k (by omega)⟩
theorem mostA_many {f : RFun} {b : Nat} {x : RBlk} (hb : f.blocks[b]? = some x) : mostA f b (x.ins.length + 1) = manyP x (lvO f b) (x.ins.length + 1) := by
  apply Nat.le_antisymm
  · rw [mostA_le]
    intro j hj
    rw [atL_eq hb]
    have := (manyP_le (x := x) (o := lvO f b) (B := manyP x (lvO f b) (x.ins.length + 1)) (k := x.ins.length + 1)).1 (Nat.le_refl _) (x.ins.length - j) (by omega)
    rwa [show x.ins.length - (x.ins.length - j) = j by omega] at this
  · rw [manyP_le]
    intro j hj
    have := (mostA_le (f := f) (b := b) (B := mostA f b (x.ins.length + 1)) (i := x.ins.length + 1)).1 (Nat.le_refl _) (x.ins.length - j) (by omega)
    rwa [atL_eq hb] at this
end Go.Proofs.YtbcnejobnmljlaaDoor

/- The package ir: a function's variables, its size, walked. -/
namespace Go.Proofs.YtbcnejobnmljlaaDoor
set_option linter.unusedVariables false
open Go Go.RowKit
set_option maxRecDepth 100000

/-- What is noted of an instruction, of a block, of a function. -/
def noteI (i : RIns) : List Int := readsL i ++ [defI i]
def noteB (b : RBlk) : List Int := b.ins.flatMap noteI ++ needsL b.term
def noteF (f : RFun) : List Int := f.params ++ f.blocks.flatMap noteB
def noS : VS := fun _ => false
theorem putsV_app (S : VS) (a b : List Int) : putsV S (a ++ b) true = putsV (putsV S a true) b true := by
  unfold putsV; rw [List.foldl_append]
theorem putsV_snoc (S : VS) (a : List Int) (n : Int) : putsV S (a ++ [n]) true = putV (putsV S a true) n.toNat true := by
  rw [putsV_app]; rfl
theorem putsV_iff {l : List Int} {S : VS} {v : Nat} : putsV S l true v = true ↔ S v = true ∨ ∃ n ∈ l, n.toNat = v := by
  induction l generalizing S with
  | nil => simp [putsV]
  | cons n l ih =>
    show putsV (putV S n.toNat true) l true v = true ↔ _
    rw [ih]
    have : putV S n.toNat true v = true ↔ S v = true ∨ n.toNat = v := by
      unfold putV
      by_cases e : v = n.toNat
      · rw [if_pos e]; simp [e]
      · rw [if_neg e]
        exact ⟨.inl, fun h => h.elim id fun h => absurd h.symm e⟩
    rw [this]
    simp only [List.mem_cons, exists_eq_or_imp]
    exact or_assoc
def varsTo (S : VS) (k : Nat) : List Nat := (List.range' 1 k).filter S
theorem varsTo_succ (S : VS) (k : Nat) : varsTo S (k + 1) = varsTo S k ++ (if S (k + 1) then [k + 1] else []) := by
  unfold varsTo
  rw [List.range'_concat, List.filter_append]
  congr 1
  rw [Nat.one_mul, Nat.add_comm 1 k]
  cases h : S (k + 1) <;> simp [h]
theorem varsTo_len (S : VS) (k : Nat) : (varsTo S k).length ≤ k := by
  unfold varsTo
  exact Nat.le_trans (List.length_filter_le _ _) (by simp)
def okF (f : RFun) : Bool := !longF f && wholeF f
def varsF (f : RFun) : List Nat := if okF f then varsTo (putsV noS (noteF f) true) 200 else []
def sizeF (f : RFun) : Nat := if okF f then (f.blocks.map fun b => b.ins.length + 1).sum else 0
theorem mem_varsF {f : RFun} {v : Nat} : v ∈ varsF f ↔ okF f = true ∧ (1 ≤ v ∧ v ≤ 200) ∧ ∃ n ∈ noteF f, n.toNat = v := by
  unfold varsF
  cases h : okF f with
  | false => simp
  | true =>
    rw [if_pos rfl]
    unfold varsTo
    rw [List.mem_filter, putsV_iff, List.mem_range'_1]
    simp only [noS, Bool.false_eq_true, false_or, true_and]
    exact ⟨fun ⟨h1, h2⟩ => ⟨⟨h1.1, by omega⟩, h2⟩, fun ⟨h1, h2⟩ => ⟨⟨h1.1, by omega⟩, h2⟩⟩
theorem ok_parts {f : RFun} (h : okF f = true) : longF f = false ∧ wholeF f = true := by
  unfold okF at h
  rw [Bool.and_eq_true] at h
  exact ⟨by simpa using h.1, h.2⟩
theorem whole_params {f : RFun} (h : wholeF f = true) : ∀ p ∈ f.params, 1 ≤ p ∧ p ≤ 200 := fun p hp => by
  rw [whole_split, Bool.and_eq_true, Bool.and_eq_true] at h
  have := List.all_eq_true.1 h.1.1 p hp
  unfold varB at this
  simpa using this
theorem noteI_range {i : RIns} {n : Int} (h : n ∈ noteI i) : 0 ≤ n ∧ n ≤ 200 := by
  unfold noteI at h
  rcases List.mem_append.1 h with h | h
  · have := readsL_mem h; omega
  · have e : n = defI i := by simpa using h
    rw [e]; exact defI_range i
theorem RdS.held {w0 : World} {B s n : Nat} {L : List Res} {A : Option Addr} {xs : List Value} {M : List Res} {w : World} (h : RdS w0 B L s A n xs) (hh : Hp w0 B (M ++ L) w) : Reads w w.heap.size s A n xs := h M w hh
end Go.Proofs.YtbcnejobnmljlaaDoor

/- The law 16: LiveLeast, walked. -/
namespace Go.Proofs.YtbcnejobnmljlaaDoor
set_option linter.unusedVariables false
open Go Go.RowKit
set_option maxRecDepth 100000

def rdB (b : RBlk) : List Int := b.ins.flatMap readsL ++ needsL b.term
def allS16 (f : RFun) : VS := putsV noS (f.blocks.flatMap rdB) true
theorem allS16_read {f : RFun} {v : Nat} (h : ReadAt f v) : allS16 f v = true := by
  obtain ⟨x, hx, h⟩ := h
  refine putsV_iff.2 (.inr ⟨(v : Int), List.mem_flatMap.2 ⟨x, hx, ?_⟩, by simp⟩)
  unfold rdB
  rw [List.mem_append, List.mem_flatMap]
  exact h
def onL (f : RFun) (l : List Nat) : Nat → Prop := fun v => ∃ q ∈ l, v ∈ inL f q
noncomputable def onTo (f : RFun) (t : Tm) (k : Nat) : List Nat := ((toN t).take k).flatMap (inL f)
theorem toN_len (t : Tm) : (toN t).length = (toL t).length := by simp [toN]
theorem toN_get {t : Tm} {k q : Nat} (h : (toL t)[k]? = some (q : Int)) : (toN t)[k]? = some q := by unfold toN; rw [List.getElem?_map, h]; simp
theorem onTo_succ {f : RFun} {t : Tm} {k q : Nat} (h : (toL t)[k]? = some (q : Int)) : onTo f t (k + 1) = onTo f t k ++ inL f q := by
  unfold onTo
  rw [take_snoc_ (toN_get h), List.flatMap_append]
  simp
theorem onTo_len (f : RFun) (t : Tm) : ∀ k, (onTo f t k).length ≤ k * 1024
  | 0 => by simp [onTo]
  | k + 1 => by
    have h1 := onTo_len f t k
    by_cases hk : k < (toN t).length
    · unfold onTo at h1 ⊢
      rw [take_snoc_ (List.getElem?_eq_getElem hk), List.flatMap_append, List.length_append]
      have : (inL f (toN t)[k]).length ≤ 1024 := listS_len_le _
      simp only [List.flatMap_cons, List.flatMap_nil, List.append_nil]
      omega
    · unfold onTo at h1 ⊢
      rw [List.take_of_length_le (by omega)] at h1 ⊢
      omega
theorem onTo_all {f : RFun} {b : Nat} {x : RBlk} (hb : f.blocks[b]? = some x) (hto : ∀ n ∈ toL x.term, 0 ≤ n) (v : Nat) : v ∈ onTo f x.term (toL x.term).length ↔ v ∈ outL f b := by
  unfold onTo
  rw [← toN_len, List.take_of_length_le (Nat.le_refl _), List.mem_flatMap, mem_outL]
  constructor
  · rintro ⟨q, hq, hv⟩
    exact ⟨x, q, hb, (mem_toN hto q).1 hq, mem_inL.1 hv⟩
  · rintro ⟨y, q, hy, hq, hv⟩
    rw [hb] at hy; cases hy
    exact ⟨q, (mem_toN hto q).2 hq, mem_inL.2 hv⟩
section
set_option maxHeartbeats 16000000 in
theorem law16_LiveLeast_ct {w : World} {f : RFun} (hT : Tabs w w.heap.size) (hf : FunAt w w.heap.size f) (hfit : Fit f) : Ct Tryd.prog 9 #[f.val] w (Is (.bool true)) := by
  have hbl := hfit.blen
  have htl : f.terms.length = f.blocks.length := by simp [RFun.terms]
  refine Ct.mk Tryd.func9 rfl rfl ?_
  refine Cd.seq ?_
  refine Cd.region ?_
  refine Ol.x bxg ?_
  rintro _ _ ⟨g1, rfl, rfl⟩
  refine Ol.p asb ?_
  refine Ol.nil ?_
  refine Cd.seq ?_
  refine Cd.seq ?_
  refine Cd.region ?_
  refine Ol.s (cl en_law16_awake (fun M w' hh => law16_awake_ct (hT.now hh))) ?_
  refine Ol.p noti ?_
  refine Ol.nil ?_
  refine Cd.cond rfl (fun h => by cases h) (fun h => ?_)
  refine Cd.skip ?_
  refine Cd.seq ?_
  refine Cd.seq ?_
  refine Cd.region ?_
  refine Ol.p (ldw ag_api_Func (i := 0) rfl rfl) ?_
  refine Ol.x (sp_call en_kit_FuncOf (fun M w' hh => kit_FuncOf_ct (hf.now hh) hfit (most := 250) (by decide))) ?_
  rintro _ _ ⟨_, rfl, N, rfl, hN1, hN2, rfl⟩
  refine Ol.p gti ?_
  refine Ol.nil ?_
  refine Cd.cond rfl (fun h => ?_) (fun h => ?_)
  · refine Cd.seq ?_
    refine Cd.region ?_
    refine Ol.p asb ?_
    refine Ol.nil ?_
    exact Cd.ret ⟨.bool _, ret1 rfl rfl, [], .nil, rfl, rfl⟩
  clear h
  refine Cd.skip ?_
  refine Cd.seq ?_
  refine Cd.region ?_
  refine Ol.p (ldw ag_api_Func (i := 0) rfl rfl) ?_
  refine Ol.x (sp_call en_live_Of (fun M w' hh => live_Of_ct (hT.now hh) (hf.now hh) hfit)) ?_
  rintro _ _ ⟨_, rfl, ⟨hr, rfl, rfl⟩ | ⟨hr, A1, c1, A2, c2, A3, c3, rs, hrs, rfl, rfl⟩⟩
  · skip
    refine Ol.p mvt ?_
    refine Ol.p extv ?_
    refine Ol.p extv ?_
    refine Ol.x (alc zr_live_Live) ?_
    rintro _ _ ⟨g3, rfl, rfl⟩
    refine Ol.s (stw (vs := #[.slice none 0 0, .slice none 0 0, .slice none 0 0]) sz_live_Live rfl (by intro u hu; simp at hu; subst hu; rfl) (i := 0) rfl rfl) ?_
    refine Ol.p asi ?_
    refine Ol.nil ?_
    refine Cd.seq ?_
    refine Cd.seq ?_
    refine Cd.region ?_
    refine Ol.p mvi ?_
    refine Ol.p nei ?_
    refine Ol.nil ?_
    refine Cd.cond rfl (fun h => ?_) (fun h => by cases h)
    refine Cd.seq ?_
    refine Cd.region ?_
    refine Ol.p (ldw ag_api_Func (i := 1) rfl rfl) ?_
    refine Ol.s (cl en_live_Most (fun M w' hh => live_Most_ct (hf.now hh) hfit)) ?_
    refine Ol.p eqi ?_
    refine Ol.p asb ?_
    refine Ol.nil ?_
    exact Cd.ret ⟨.bool _, ret1 rfl rfl, [], .nil, by rw [if_neg hr]; rfl, rfl⟩
  obtain ⟨LV, hLV⟩ : ∃ LV, LV = [row (.slice A1 f.blocks.length c1) 22 1 f.blocks.length (inVs f rs), row (.slice A2 f.blocks.length c2) 22 1 f.blocks.length (outVs f rs), row (.slice A3 f.blocks.length c3) 51 1 f.blocks.length (atVV f rs)] ++ lvAll 3 22 f rs := ⟨_, rfl⟩
  have hA2 : LV[1]? = some (row (.slice A2 f.blocks.length c2) 22 1 f.blocks.length (outVs f rs)) := by rw [hLV]; rfl
  have hA3 : LV[2]? = some (row (.slice A3 f.blocks.length c3) 51 1 f.blocks.length (atVV f rs)) := by rw [hLV]; rfl
  have hin := fun (b : Nat) (x : RBlk) (hb : f.blocks[b]? = some x) => lv_in hLV hb hrs
  rw [← hLV]
  obtain ⟨hok, h0, h200, hval, _, h64, hwhole⟩ := right_parts hr
  refine Ol.keep Keep.comm ?_
  refine Ol.p mvt ?_
  refine Ol.p extv ?_
  refine Ol.p extv ?_
  refine Ol.x (alc zr_live_Live) ?_
  rintro _ _ ⟨g3, rfl, rfl⟩
  refine Ol.s (stw (vs := #[.slice A1 f.blocks.length c1, .slice A2 f.blocks.length c2, .slice A3 f.blocks.length c3]) sz_live_Live rfl (by intro u hu; simp at hu; rcases hu with rfl | rfl | rfl <;> rfl) (i := 0) rfl rfl) ?_
  refine Ol.p asi ?_
  refine Ol.nil ?_
  refine Cd.seq ?_
  refine Cd.seq ?_
  refine Cd.region ?_
  refine Ol.p mvi ?_
  refine Ol.p nei ?_
  refine Ol.nil ?_
  refine Cd.cond rfl (fun h => by cases h) (fun h => ?_)
  refine Cd.skip ?_
  refine Cd.seq ?_
  refine Cd.region ?_
  refine Ol.p asi ?_
  refine Ol.nil ?_
  refine Cd.seq ?_
  refine Cd.region ?_
  refine Ol.x (alc zr_A201_bool) ?_
  rintro _ _ ⟨g6, rfl, rfl⟩
  refine Ol.nil ?_
  obtain ⟨L0, hL0⟩ : ∃ L0, L0 = [blk g3 (.cells #[.slice A1 f.blocks.length c1, .slice A2 f.blocks.length c2, .slice A3 f.blocks.length c3] 54), blk g1 (.cells f.cells.toArray 38)] ++ LV := ⟨_, rfl⟩
  -- all that is read
  refine Cd.mid (fun σ' L' => Has σ' [(1, .pointer (some ⟨g1, 0, none⟩)), (3, .pointer (some ⟨g3, 0, none⟩)), (5, .int .i64 0), (6, .pointer (some ⟨g6, 0, none⟩))] ∧ blk g6 (.cells (encV (allS16 f)) 68) :: L0 = L') ?_ ?_
  · refine Cd.seq ?_
    refine Cd.region ?_
    refine Ol.p asi ?_
    refine Ol.nil ?_
    refine Cd.block ?_
    refine Cd.loop (fun m σ L => ∃ k, m = f.blocks.length - k ∧ k ≤ f.blocks.length ∧ Has σ [(1, .pointer (some ⟨g1, 0, none⟩)), (3, .pointer (some ⟨g3, 0, none⟩)), (5, .int .i64 0), (6, .pointer (some ⟨g6, 0, none⟩)), (7, .int .i64 k)] ∧ blk g6 (.cells (encV (putsV noS ((f.blocks.take k).flatMap rdB) true)) 68) :: L0 = L) (n := f.blocks.length) ⟨0, rfl, Nat.zero_le _, ⟨rfl, rfl, rfl, rfl, rfl, trivial⟩, by rw [hL0, show putsV noS ((f.blocks.take 0).flatMap rdB) true = fun _ => false from rfl, ← zeroV]; rfl⟩ ?_
    rintro _ σ L ⟨k, rfl, hk, hs, rfl⟩
    refine Cd.has hs ?_
    clear hs
    rw [hL0]
    refine Cd.seq ?_
    refine Cd.seq ?_
    refine Cd.region ?_
    refine Ol.p mvi ?_
    refine Ol.p (fdl fd_api_Func_1) ?_
    refine Ol.p (ld one_L_api_Block (Rd.blk (i := 2) rfl rfl)) ?_
    refine Ol.p (lens sl_L_api_Block) ?_
    refine Ol.p lsi ?_
    refine Ol.nil ?_
    refine Cd.cond rfl (fun h => ?_) (fun h => ?_)
    · have hlt : k < f.blocks.length := by
        simp only [decide_eq_true_eq] at h; omega
      obtain ⟨x, hx⟩ : ∃ x, f.blocks[k]? = some x := ⟨_, List.getElem?_eq_getElem hlt⟩
      have hxm := List.mem_of_getElem? hx
      have hxl := h64 x hxm
      have hnl := needsL_len x.term
      obtain ⟨S0, hS0⟩ : ∃ S0, S0 = putsV noS ((f.blocks.take k).flatMap rdB) true := ⟨_, rfl⟩
      rw [← hS0]
      refine Cd.skip ?_
      refine Cd.seq ?_
      refine Cd.block ?_
      refine Cd.seq ?_
      refine Cd.region ?_
      refine Ol.p (fdl fd_api_Func_1) ?_
      refine Ol.p (ld one_L_api_Block (Rd.blk (i := 2) rfl rfl)) ?_
      refine Ol.p mvi ?_
      refine Ol.p (ixn (ix := k) sl_L_api_Block (Som.slc hf.blocks (by omega))) ?_
      refine Ol.p (lds (es := x.cells) ag_api_Block hf.blocks x.len (fun j u hu => blk_cell hx hu)) ?_
      refine Ol.x (alc zr_api_Block) ?_
      rintro _ _ ⟨g8, rfl, rfl⟩
      refine Ol.s (stw (vs := x.cells.toArray) sz_api_Block rfl x.one (i := 0) rfl rfl) ?_
      refine Ol.nil ?_
      obtain ⟨L1, hL1⟩ : ∃ L1, L1 = [blk g3 (.cells #[.slice A1 f.blocks.length c1, .slice A2 f.blocks.length c2, .slice A3 f.blocks.length c3] 54), blk g1 (.cells f.cells.toArray 38)] ++ LV := ⟨_, rfl⟩
      rw [← hL1]
      refine Cd.mid (fun σ' L' => Has σ' [(1, .pointer (some ⟨g1, 0, none⟩)), (3, .pointer (some ⟨g3, 0, none⟩)), (5, .int .i64 0), (6, .pointer (some ⟨g6, 0, none⟩)), (7, .int .i64 k), (8, .pointer (some ⟨g8, 0, none⟩))] ∧ blk g8 (.cells x.cells.toArray 66) :: blk g6 (.cells (encV (putsV S0 (x.ins.flatMap readsL) true)) 68) :: L1 = L') ?_ ?_
      · refine Cd.seq ?_
        refine Cd.region ?_
        refine Ol.p asi ?_
        refine Ol.nil ?_
        refine Cd.block ?_
        refine Cd.loop (fun m σ L => ∃ q, m = x.ins.length - q ∧ q ≤ x.ins.length ∧ Has σ [(1, .pointer (some ⟨g1, 0, none⟩)), (3, .pointer (some ⟨g3, 0, none⟩)), (5, .int .i64 0), (6, .pointer (some ⟨g6, 0, none⟩)), (7, .int .i64 k), (8, .pointer (some ⟨g8, 0, none⟩)), (9, .int .i64 q)] ∧ blk g8 (.cells x.cells.toArray 66) :: blk g6 (.cells (encV (putsV S0 ((x.ins.take q).flatMap readsL) true)) 68) :: L1 = L) (n := x.ins.length) ⟨0, rfl, Nat.zero_le _, ⟨rfl, rfl, rfl, rfl, rfl, rfl, rfl, trivial⟩, rfl⟩ ?_
        rintro _ σ L ⟨q, rfl, hq, hs, rfl⟩
        refine Cd.has hs ?_
        clear hs
        refine Cd.seq ?_
        refine Cd.seq ?_
        refine Cd.region ?_
        refine Ol.p mvi ?_
        refine Ol.p (fdl fd_api_Block_0) ?_
        refine Ol.p (ld one_L_api_Ins (Rd.blk (i := 0) rfl rfl)) ?_
        refine Ol.p (lens sl_L_api_Ins) ?_
        refine Ol.p lsi ?_
        refine Ol.nil ?_
        refine Cd.cond rfl (fun h2 => ?_) (fun h2 => ?_)
        · have hql : q < x.ins.length := by
            simp only [decide_eq_true_eq] at h2; omega
          obtain ⟨i, hi⟩ : ∃ i, x.ins[q]? = some i := ⟨_, List.getElem?_eq_getElem hql⟩
          have him := List.mem_of_getElem? hi
          have hrl := readsL_len i
          have hal := hfit.alen x hxm i him
          have hia : ∀ {M : List Res} {w' : World}, Hp w w.heap.size M w' → InsAt w' i := fun hh => ⟨(hf.args x hxm i him).now hh, hal, hfit.insr x hxm i him i.callee (by simp)⟩
          obtain ⟨S1, hS1⟩ : ∃ S1, S1 = putsV S0 ((x.ins.take q).flatMap readsL) true := ⟨_, rfl⟩
          rw [← hS1]
          refine Cd.skip ?_
          refine Cd.seq ?_
          refine Cd.block ?_
          refine Cd.seq ?_
          refine Cd.region ?_
          refine Ol.p (fdl fd_api_Block_0) ?_
          refine Ol.p (ld one_L_api_Ins (Rd.blk (i := 0) rfl rfl)) ?_
          refine Ol.p mvi ?_
          refine Ol.p (ixn (ix := q) sl_L_api_Ins (Som.slc (hf.ins x hxm) (by omega))) ?_
          refine Ol.p (lds (es := i.cells) ag_api_Ins (hf.ins x hxm) i.len (fun j u hu => ins_cell hi hu)) ?_
          refine Ol.x (sp_call en_ir_Reads (fun M w' hh => ir_Reads_ct (hia hh))) ?_
          rintro _ _ ⟨_, rfl, A60, c60, rfl, rfl⟩
          refine Ol.p ass ?_
          refine Ol.nil ?_
          refine Cd.seq ?_
          refine Cd.region ?_
          refine Ol.p asi ?_
          refine Ol.nil ?_
          refine Cd.block ?_
          refine Cd.loop (fun m σ L => ∃ j, m = (readsL i).length - j ∧ j ≤ (readsL i).length ∧ Has σ [(1, .pointer (some ⟨g1, 0, none⟩)), (3, .pointer (some ⟨g3, 0, none⟩)), (5, .int .i64 0), (6, .pointer (some ⟨g6, 0, none⟩)), (7, .int .i64 k), (8, .pointer (some ⟨g8, 0, none⟩)), (9, .int .i64 q), (10, .slice A60 (readsL i).length c60), (11, .int .i64 j)] ∧ row (.slice A60 (readsL i).length c60) 3 1 (readsL i).length (ints (readsL i)) :: blk g8 (.cells x.cells.toArray 66) :: blk g6 (.cells (encV (putsV S1 ((readsL i).take j) true)) 68) :: L1 = L) (n := (readsL i).length) ⟨0, rfl, Nat.zero_le _, ⟨rfl, rfl, rfl, rfl, rfl, rfl, rfl, rfl, rfl, trivial⟩, rfl⟩ ?_
          rintro _ σ L ⟨j, rfl, hj, hs, rfl⟩
          refine Cd.has hs ?_
          clear hs
          refine Cd.seq ?_
          refine Cd.seq ?_
          refine Cd.region ?_
          refine Ol.p mvi ?_
          refine Ol.p mvs ?_
          refine Ol.p (lens sl_L_int) ?_
          refine Ol.p lsi ?_
          refine Ol.nil ?_
          refine Cd.cond rfl (fun h3 => ?_) (fun h3 => ?_)
          · have hjl : j < (readsL i).length := by
              simp only [decide_eq_true_eq] at h3; omega
            obtain ⟨n, hn⟩ : ∃ n, (readsL i)[j]? = some n := ⟨_, List.getElem?_eq_getElem hjl⟩
            have hnr := readsL_mem (List.mem_of_getElem? hn)
            obtain ⟨m, rfl⟩ : ∃ m : Nat, n = (m : Int) := ⟨n.toNat, by omega⟩
            refine Cd.skip ?_
            refine Cd.seq ?_
            refine Cd.block ?_
            refine Cd.region ?_
            refine Ol.p mvs ?_
            refine Ol.p mvi ?_
            refine Ol.p (ixn1 (ix := j) sl_L_int (Som.row (i := 0) rfl (by omega))) ?_
            refine Ol.p (ld one_int (Rd.row (i := 0) rfl (ints_at hn))) ?_
            refine Ol.p (ixl1 (ix := m) ar_A201_bool) ?_
            refine Ol.s (sto (v := .bool true) (i := 2) (k := m) (.inr sz_bool) rfl rfl rfl (by rw [encV_size]; omega) rfl) ?_
            refine Ol.nil ?_
            refine Cd.region ?_
            refine Ol.p mvi ?_
            refine Ol.p addi ?_
            refine Ol.p asi ?_
            refine Ol.nil ?_
            refine ⟨(readsL i).length - (j + 1), by omega, j + 1, rfl, by omega, ⟨rfl, rfl, rfl, rfl, rfl, rfl, rfl, rfl, rfl, trivial⟩, ?_⟩
            rw [take_snoc_ hn, putsV_snoc, ← encV_set]
            rfl
          have hje : j = (readsL i).length := by
            simp only [decide_eq_false_iff_not] at h3; omega
          refine Cd.keep (.sub (.cons _ (List.Sublist.refl _))) ?_
          refine Cd.exit (id := 4) ?_
          refine Cd.region ?_
          refine Ol.p mvi ?_
          refine Ol.p addi ?_
          refine Ol.p asi ?_
          refine Ol.nil ?_
          refine ⟨x.ins.length - (q + 1), by omega, q + 1, rfl, by omega, ⟨rfl, rfl, rfl, rfl, rfl, rfl, rfl, trivial⟩, ?_⟩
          rw [hje, List.take_of_length_le (Nat.le_refl _), take_snoc_ hi, List.flatMap_append, putsV_app, ← hS1]
          simp
        have hqe : q = x.ins.length := by
          simp only [decide_eq_false_iff_not] at h2; omega
        refine Cd.exit (id := 2) ⟨⟨rfl, rfl, rfl, rfl, rfl, rfl, trivial⟩, ?_⟩
        rw [hqe, List.take_of_length_le (Nat.le_refl _)]
      rintro σ' _ ⟨hs', rfl⟩
      refine Cd.has hs' ?_
      clear hs'
      obtain ⟨S1, hS1⟩ : ∃ S1, S1 = putsV S0 (x.ins.flatMap readsL) true := ⟨_, rfl⟩
      rw [← hS1]
      refine Cd.seq ?_
      refine Cd.region ?_
      refine Ol.p (fdl fd_api_Block_1) ?_
      refine Ol.p (ldp (k := 0 + 1) (vs := x.term.cells.toArray) ag_api_Term (i := 0) rfl rfl (fun j u hu => by rw [Nat.zero_add, Nat.add_comm]; simpa [RBlk.cells] using hu)) ?_
      refine Ol.x (sp_call en_ir_Needs (fun M w' hh => ir_Needs_ct (t := x.term))) ?_
      rintro _ _ ⟨_, rfl, A74, c74, rfl, rfl⟩
      refine Ol.p ass ?_
      refine Ol.nil ?_
      refine Cd.seq ?_
      refine Cd.region ?_
      refine Ol.p asi ?_
      refine Ol.nil ?_
      refine Cd.block ?_
      refine Cd.loop (fun m σ L => ∃ j, m = (needsL x.term).length - j ∧ j ≤ (needsL x.term).length ∧ Has σ [(1, .pointer (some ⟨g1, 0, none⟩)), (3, .pointer (some ⟨g3, 0, none⟩)), (5, .int .i64 0), (6, .pointer (some ⟨g6, 0, none⟩)), (7, .int .i64 k), (12, .slice A74 (needsL x.term).length c74), (13, .int .i64 j)] ∧ row (.slice A74 (needsL x.term).length c74) 3 1 (needsL x.term).length (ints (needsL x.term)) :: blk g8 (.cells x.cells.toArray 66) :: blk g6 (.cells (encV (putsV S1 ((needsL x.term).take j) true)) 68) :: L1 = L) (n := (needsL x.term).length) ⟨0, rfl, Nat.zero_le _, ⟨rfl, rfl, rfl, rfl, rfl, rfl, rfl, trivial⟩, rfl⟩ ?_
      rintro _ σ L ⟨j, rfl, hj, hs, rfl⟩
      refine Cd.has hs ?_
      clear hs
      refine Cd.seq ?_
      refine Cd.seq ?_
      refine Cd.region ?_
      refine Ol.p mvi ?_
      refine Ol.p mvs ?_
      refine Ol.p (lens sl_L_int) ?_
      refine Ol.p lsi ?_
      refine Ol.nil ?_
      refine Cd.cond rfl (fun h3 => ?_) (fun h3 => ?_)
      · have hjl : j < (needsL x.term).length := by
          simp only [decide_eq_true_eq] at h3; omega
        obtain ⟨n, hn⟩ : ∃ n, (needsL x.term)[j]? = some n := ⟨_, List.getElem?_eq_getElem hjl⟩
        have hnr := needsL_mem (List.mem_of_getElem? hn)
        obtain ⟨m, rfl⟩ : ∃ m : Nat, n = (m : Int) := ⟨n.toNat, by omega⟩
        refine Cd.skip ?_
        refine Cd.seq ?_
        refine Cd.block ?_
        refine Cd.region ?_
        refine Ol.p mvs ?_
        refine Ol.p mvi ?_
        refine Ol.p (ixn1 (ix := j) sl_L_int (Som.row (i := 0) rfl (by omega))) ?_
        refine Ol.p (ld one_int (Rd.row (i := 0) rfl (ints_at hn))) ?_
        refine Ol.p (ixl1 (ix := m) ar_A201_bool) ?_
        refine Ol.s (sto (v := .bool true) (i := 2) (k := m) (.inr sz_bool) rfl rfl rfl (by rw [encV_size]; omega) rfl) ?_
        refine Ol.nil ?_
        refine Cd.region ?_
        refine Ol.p mvi ?_
        refine Ol.p addi ?_
        refine Ol.p asi ?_
        refine Ol.nil ?_
        refine ⟨(needsL x.term).length - (j + 1), by omega, j + 1, rfl, by omega, ⟨rfl, rfl, rfl, rfl, rfl, rfl, rfl, trivial⟩, ?_⟩
        rw [take_snoc_ hn, putsV_snoc, ← encV_set]
        rfl
      have hje : j = (needsL x.term).length := by
        simp only [decide_eq_false_iff_not] at h3; omega
      refine Cd.keep (.sub (.cons _ (.cons _ (List.Sublist.refl _)))) ?_
      refine Cd.exit (id := 6) ?_
      refine Cd.region ?_
      refine Ol.p mvi ?_
      refine Ol.p addi ?_
      refine Ol.p asi ?_
      refine Ol.nil ?_
      refine ⟨f.blocks.length - (k + 1), by omega, k + 1, rfl, by omega, ⟨rfl, rfl, rfl, rfl, rfl, trivial⟩, ?_⟩
      rw [hL1, hje, List.take_of_length_le (Nat.le_refl _), take_snoc_ hx, List.flatMap_append, putsV_app, ← hS0, hS1, ← putsV_app]
      simp [rdB]
    have hke : k = f.blocks.length := by
      simp only [decide_eq_false_iff_not] at h; omega
    refine Cd.exit (id := 0) ⟨⟨rfl, rfl, rfl, rfl, trivial⟩, ?_⟩
    rw [hke, List.take_of_length_le (Nat.le_refl _)]
    rfl
  rintro σ' _ ⟨hs', rfl⟩
  refine Cd.has hs' ?_
  clear hs'
  have hread := fun v (h : ReadAt f v) => allS16_read h
  obtain ⟨S, hS⟩ : ∃ S, S = allS16 f := ⟨_, rfl⟩
  rw [← hS] at hread ⊢
  rw [hL0]
  -- block by block
  refine Cd.mid (fun σ' L' => Has σ' [(1, .pointer (some ⟨g1, 0, none⟩)), (5, .int .i64 ((mostTo f f.blocks.length : Nat) : Int))] ∧ [blk g6 (.cells (encV S) 68), blk g3 (.cells #[.slice A1 f.blocks.length c1, .slice A2 f.blocks.length c2, .slice A3 f.blocks.length c3] 54), blk g1 (.cells f.cells.toArray 38)] ++ LV = L') ?_ ?_
  · refine Cd.seq ?_
    refine Cd.region ?_
    refine Ol.p asi ?_
    refine Ol.nil ?_
    refine Cd.block ?_
    refine Cd.loop (fun m σ L => ∃ b, m = f.blocks.length - b ∧ b ≤ f.blocks.length ∧ Has σ [(1, .pointer (some ⟨g1, 0, none⟩)), (3, .pointer (some ⟨g3, 0, none⟩)), (5, .int .i64 ((mostTo f b : Nat) : Int)), (6, .pointer (some ⟨g6, 0, none⟩)), (14, .int .i64 b)] ∧ [blk g6 (.cells (encV S) 68), blk g3 (.cells #[.slice A1 f.blocks.length c1, .slice A2 f.blocks.length c2, .slice A3 f.blocks.length c3] 54), blk g1 (.cells f.cells.toArray 38)] ++ LV = L) (n := f.blocks.length) ⟨0, rfl, Nat.zero_le _, ⟨rfl, rfl, rfl, rfl, rfl, trivial⟩, rfl⟩ ?_
    rintro _ σ L ⟨b, rfl, hb, hs, rfl⟩
    refine Cd.has hs ?_
    clear hs
    refine Cd.seq ?_
    refine Cd.seq ?_
    refine Cd.region ?_
    refine Ol.p mvi ?_
    refine Ol.p (fdl fd_api_Func_1) ?_
    refine Ol.p (ld one_L_api_Block (Rd.blk (i := 2) rfl rfl)) ?_
    refine Ol.p (lens sl_L_api_Block) ?_
    refine Ol.p lsi ?_
    refine Ol.nil ?_
    refine Cd.cond rfl (fun h => ?_) (fun h => ?_)
    · have hlt : b < f.blocks.length := by
        simp only [decide_eq_true_eq] at h; omega
      obtain ⟨x, hx⟩ : ∃ x, f.blocks[b]? = some x := ⟨_, List.getElem?_eq_getElem hlt⟩
      have hxm := List.mem_of_getElem? hx
      have hxl := h64 x hxm
      have htoL := toL_len x.term
      have hto : ∀ n ∈ toL x.term, 1 ≤ n ∧ n < f.terms.length := fun n hn => okEs_at hok (a := b) (n := n) (by rw [toAt_some (show f.terms[b]? = some x.term by simp [RFun.terms, hx])]; exact hn)
      obtain ⟨t, ht1, ht2, ht3, ⟨iI, hiI⟩, ⟨iO, hiO⟩, ⟨iT, hiT⟩, hiQ⟩ := hin b x hx
      refine Cd.skip ?_
      refine Cd.seq ?_
      refine Cd.block ?_
      refine Cd.seq ?_
      refine Cd.region ?_
      refine Ol.p (fdl fd_api_Func_1) ?_
      refine Ol.p (ld one_L_api_Block (Rd.blk (i := 2) rfl rfl)) ?_
      refine Ol.p mvi ?_
      refine Ol.p (ixn (ix := b) sl_L_api_Block (Som.slc hf.blocks (by omega))) ?_
      refine Ol.p (fdp fd_api_Block_1) ?_
      refine Ol.p (lds (es := x.term.cells) ag_api_Term hf.blocks rfl (fun q u hu => by rw [Nat.add_assoc, hf.cell hx (j := 1 + q) (by have := (List.getElem?_eq_some_iff.1 hu).1; simp [Tm.cells] at this; omega), Nat.add_comm]; simpa [RBlk.cells] using hu)) ?_
      refine Ol.x (sp_call en_ir_To (fun M w' hh => ir_To_ct (t := x.term))) ?_
      rintro _ _ ⟨_, rfl, A99, c99, rfl, rfl⟩
      refine Ol.p ass ?_
      refine Ol.nil ?_
      refine Cd.seq ?_
      refine Cd.region ?_
      refine Ol.p ass ?_
      refine Ol.nil ?_
      refine Cd.nr 3 1 ?_
      -- what is on its edges
      refine Cd.mid (fun σ' L' => ∃ A c, Has σ' [(1, .pointer (some ⟨g1, 0, none⟩)), (3, .pointer (some ⟨g3, 0, none⟩)), (5, .int .i64 ((mostTo f b : Nat) : Int)), (6, .pointer (some ⟨g6, 0, none⟩)), (14, .int .i64 b), (16, .slice A (onTo f x.term (toL x.term).length).length c)] ∧ [row (.slice A (onTo f x.term (toL x.term).length).length c) 3 1 (onTo f x.term (toL x.term).length).length (intsN (onTo f x.term (toL x.term).length)), blk g6 (.cells (encV S) 68), blk g3 (.cells #[.slice A1 f.blocks.length c1, .slice A2 f.blocks.length c2, .slice A3 f.blocks.length c3] 54), blk g1 (.cells f.cells.toArray 38)] ++ LV = L') ?_ ?_
      · refine Cd.seq ?_
        refine Cd.region ?_
        refine Ol.p asi ?_
        refine Ol.nil ?_
        refine Cd.block ?_
        refine Cd.loop (fun m σ L => ∃ k A c, m = (toL x.term).length - k ∧ k ≤ (toL x.term).length ∧ Has σ [(1, .pointer (some ⟨g1, 0, none⟩)), (3, .pointer (some ⟨g3, 0, none⟩)), (5, .int .i64 ((mostTo f b : Nat) : Int)), (6, .pointer (some ⟨g6, 0, none⟩)), (14, .int .i64 b), (15, .slice A99 (toL x.term).length c99), (16, .slice A (onTo f x.term k).length c), (17, .int .i64 k)] ∧ [row (.slice A (onTo f x.term k).length c) 3 1 (onTo f x.term k).length (intsN (onTo f x.term k)), row (.slice A99 (toL x.term).length c99) 3 1 (toL x.term).length (ints (toL x.term)), blk g6 (.cells (encV S) 68), blk g3 (.cells #[.slice A1 f.blocks.length c1, .slice A2 f.blocks.length c2, .slice A3 f.blocks.length c3] 54), blk g1 (.cells f.cells.toArray 38)] ++ LV = L) (n := (toL x.term).length) ⟨0, none, 0, rfl, Nat.zero_le _, ⟨rfl, rfl, rfl, rfl, rfl, rfl, rfl, rfl, trivial⟩, rfl⟩ ?_
        rintro _ σ L ⟨k, A, c, rfl, hk, hs, rfl⟩
        refine Cd.has hs ?_
        clear hs
        refine Cd.seq ?_
        refine Cd.seq ?_
        refine Cd.region ?_
        refine Ol.p mvi ?_
        refine Ol.p mvs ?_
        refine Ol.p (lens sl_L_int) ?_
        refine Ol.p lsi ?_
        refine Ol.nil ?_
        refine Cd.cond rfl (fun h2 => ?_) (fun h2 => ?_)
        · have hkl : k < (toL x.term).length := by
            simp only [decide_eq_true_eq] at h2; omega
          obtain ⟨n, hn⟩ : ∃ n, (toL x.term)[k]? = some n := ⟨_, List.getElem?_eq_getElem hkl⟩
          have hnr := hto n (List.mem_of_getElem? hn)
          obtain ⟨q, rfl⟩ : ∃ q : Nat, n = (q : Int) := ⟨n.toNat, by omega⟩
          have hol := onTo_len f x.term k
          have hil := inL_lt (f := f) (b := q)
          have hil2 : (inL f q).length ≤ 1024 := listS_len_le _
          refine Cd.skip ?_
          refine Cd.seq ?_
          refine Cd.block ?_
          refine Cd.draw mixed 10 (fun opNo => match opNo with | 9 => some (NewL 3 1 (inL f q).length (intsN (inL f q))) | _ => none) (fun _ => []) (by kernel_rfl) (by intro q V h; split at h <;> cases h; exact ⟨_, _, none, 0, rfl, rfl⟩) (fun u hu => ?_)
          refine Wk.p mvs ?_
          refine Wk.p (ldw ag_api_Func (i := 4) rfl rfl) ?_
          refine Wk.p mvi ?_
          refine Wk.p mvi ?_
          refine Wk.p mvs ?_
          refine Wk.p mvi ?_
          refine Wk.p (ixn1 (ix := k) sl_L_int (Som.row (i := 1) rfl (by omega))) ?_
          refine Wk.p (ld one_int (Rd.row (i := 1) rfl (ints_at hn))) ?_
          refine Wk.p (bds (cs := #[.int .i64 (b : Int), .int .i64 (k : Int), .int .i64 (q : Int)]) bs_api_Edge zr_api_Edge) ?_
          refine Wk.x (V := NewL 3 1 (inL f q).length (intsN (inL f q))) hu (sp_call en_live_On (fun M w' hh => live_On_ct (hT.now hh) (hf.now hh) hfit hr hx hn (by omega))) ?_
          rintro _ _ hu9 ⟨A115, c115, rfl, rfl⟩
          refine Wk.nil ?_
          rw [needs_cons hu9, needs_none]
          refine Ol.x (apn (i := 1) sl_L_int zr_int rfl (by decide) rfl (Src.row (i := 0) rfl (by simp [intsN])) (by intro u hu; simp only [intsN, List.mem_map] at hu; obtain ⟨_, _, rfl⟩ := hu; rfl) (by unfold maxLen; omega) (by omega)) ?_
          rintro _ _ ⟨A', c', rfl, rfl⟩
          refine Ol.p ass ?_
          refine Ol.keep (.sub (.cons _ (List.Sublist.refl _))) ?_
          refine Ol.nil ?_
          have e0 := onTo_succ (f := f) hn
          have e1 : (onTo f x.term k).length + (inL f q).length = (onTo f x.term (k + 1)).length := by rw [e0]; simp
          have e2 : intsN (onTo f x.term k) ++ intsN (inL f q) = intsN (onTo f x.term (k + 1)) := by rw [e0]; simp [intsN]
          rw [e1, e2]
          refine Cd.region ?_
          refine Ol.p mvi ?_
          refine Ol.p addi ?_
          refine Ol.p asi ?_
          refine Ol.nil ?_
          exact ⟨(toL x.term).length - (k + 1), by omega, k + 1, A', c', rfl, by omega, ⟨rfl, rfl, rfl, rfl, rfl, rfl, rfl, rfl, trivial⟩, rfl⟩
        have hke : k = (toL x.term).length := by
          simp only [decide_eq_false_iff_not] at h2; omega
        subst hke
        refine Cd.keep (.sub (.cons_cons _ (.cons _ (List.Sublist.refl _)))) ?_
        exact Cd.exit (id := 10) ⟨A, c, ⟨rfl, rfl, rfl, rfl, rfl, rfl, trivial⟩, rfl⟩
      rintro σ' _ ⟨A, c, hs', rfl⟩
      refine Cd.has hs' ?_
      clear hs'
      have hon := onTo_all hx (fun n hn => by have := hto n hn; omega)
      have holen := onTo_len f x.term (toL x.term).length
      obtain ⟨on, hone⟩ : ∃ on, on = onTo f x.term (toL x.term).length := ⟨_, rfl⟩
      rw [← hone] at hon holen ⊢
      refine Cd.mid (fun σ' L' => Has σ' [(1, .pointer (some ⟨g1, 0, none⟩)), (3, .pointer (some ⟨g3, 0, none⟩)), (5, .int .i64 ((mostTo f b : Nat) : Int)), (6, .pointer (some ⟨g6, 0, none⟩)), (14, .int .i64 b)] ∧ [blk g6 (.cells (encV S) 68), blk g3 (.cells #[.slice A1 f.blocks.length c1, .slice A2 f.blocks.length c2, .slice A3 f.blocks.length c3] 54), blk g1 (.cells f.cells.toArray 38)] ++ LV = L') ?_ ?_
      · refine Cd.seq ?_
        refine Cd.region ?_
        refine Ol.p asi ?_
        refine Ol.nil ?_
        refine Cd.block ?_
        refine Cd.loop (fun m σ L => ∃ v : Nat, m = 201 - v ∧ 1 ≤ v ∧ v ≤ 201 ∧ Has σ [(1, .pointer (some ⟨g1, 0, none⟩)), (3, .pointer (some ⟨g3, 0, none⟩)), (5, .int .i64 ((mostTo f b : Nat) : Int)), (6, .pointer (some ⟨g6, 0, none⟩)), (14, .int .i64 b), (16, .slice A on.length c), (18, .int .i64 v)] ∧ [row (.slice A on.length c) 3 1 on.length (intsN on), blk g6 (.cells (encV S) 68), blk g3 (.cells #[.slice A1 f.blocks.length c1, .slice A2 f.blocks.length c2, .slice A3 f.blocks.length c3] 54), blk g1 (.cells f.cells.toArray 38)] ++ LV = L) (n := 200) ⟨1, rfl, by omega, by omega, ⟨rfl, rfl, rfl, rfl, rfl, rfl, rfl, trivial⟩, rfl⟩ ?_
        rintro _ σ L ⟨v, rfl, hv1, hv2, hs, rfl⟩
        refine Cd.has hs ?_
        clear hs
        refine Cd.seq ?_
        refine Cd.seq ?_
        refine Cd.region ?_
        refine Ol.p mvi ?_
        refine Ol.p lei ?_
        refine Ol.nil ?_
        refine Cd.cond rfl (fun h2 => ?_) (fun h2 => ?_)
        · have hvl : v ≤ 200 := by
            simp only [decide_eq_true_eq] at h2; omega
          have heq : decide (v ∈ on) = decide (v ∈ outL f b) := by rw [decide_eq_decide]; exact hon v
          refine Cd.skip ?_
          refine Cd.seq ?_
          refine Cd.block ?_
          refine Cd.seq ?_
          refine Cd.draw mixed 11 (exIs (fun opNo => match opNo with | 2 => some (.bool (decide (v ∈ on))) | 9 => some (.bool (decide (v ∈ outL f b))) | _ => none)) (fun _ => []) (by kernel_rfl) exIs_in (fun u hu => ?_)
          refine Wk.p mvs ?_
          refine Wk.p mvi ?_
          refine Wk.dk hu (sp_call en_law16_has (fun M w' hh => law16_has_nat (l := on) (n := v) (Reads.row hh (i := 0) rfl) (by omega))) ?_
          refine Wk.p (fdl fd_live_Live_1) ?_
          refine Wk.p (ld one_L_L_int (Rd.blk (i := 2) rfl rfl)) ?_
          refine Wk.p mvi ?_
          refine Wk.p (ixn1 (ix := b) sl_L_L_int (Som.row (i := 5) hA2 (by omega))) ?_
          refine Wk.p (ld one_L_int (Rd.row (i := 5) hA2 ht2)) ?_
          refine Wk.p mvi ?_
          refine Wk.dk hu (sp_call en_law16_has (fun M w' hh => law16_has_nat (l := outL f b) (n := v) (Reads.row hh (i := iO + 4) hiO) (by have := outL_lt (f := f) (b := b); omega))) ?_
          refine Wk.p (neb bo_bool) ?_
          refine Wk.nil ?_
          rw [needs_exIs hu rfl]
          refine Ol.nil ?_
          refine Cd.cond rfl (fun h3 => by rw [heq] at h3; simp at h3) (fun h3 => ?_)
          refine Cd.skip ?_
          refine Cd.region ?_
          refine Ol.p mvi ?_
          refine Ol.p addi ?_
          refine Ol.p asi ?_
          refine Ol.nil ?_
          exact ⟨201 - (v + 1), by omega, v + 1, rfl, by omega, by omega, ⟨rfl, rfl, rfl, rfl, rfl, rfl, rfl, trivial⟩, rfl⟩
        refine Cd.keep (.sub (.cons _ (List.Sublist.refl _))) ?_
        exact Cd.exit (id := 12) ⟨⟨rfl, rfl, rfl, rfl, rfl, trivial⟩, rfl⟩
      rintro σ' _ ⟨hs', rfl⟩
      refine Cd.has hs' ?_
      clear hs'
      refine Cd.seq ?_
      refine Cd.region ?_
      refine Ol.p asi ?_
      refine Ol.nil ?_
      refine Cd.block ?_
      refine Cd.loop (fun m σ L => ∃ i, m = x.ins.length + 1 - i ∧ i ≤ x.ins.length + 1 ∧ Has σ [(1, .pointer (some ⟨g1, 0, none⟩)), (3, .pointer (some ⟨g3, 0, none⟩)), (5, .int .i64 ((max (mostTo f b) (mostA f b i) : Nat) : Int)), (6, .pointer (some ⟨g6, 0, none⟩)), (14, .int .i64 b), (19, .int .i64 i)] ∧ [blk g6 (.cells (encV S) 68), blk g3 (.cells #[.slice A1 f.blocks.length c1, .slice A2 f.blocks.length c2, .slice A3 f.blocks.length c3] 54), blk g1 (.cells f.cells.toArray 38)] ++ LV = L) (n := x.ins.length + 1) ⟨0, rfl, Nat.zero_le _, ⟨rfl, rfl, congrArg (fun z : Nat => Value.int .i64 (z : Int)) (by simp [mostA]), rfl, rfl, rfl, trivial⟩, rfl⟩ ?_
      rintro _ σ L ⟨i, rfl, hi, hs, rfl⟩
      refine Cd.has hs ?_
      clear hs
      refine Cd.seq ?_
      refine Cd.seq ?_
      refine Cd.region ?_
      refine Ol.p mvi ?_
      refine Ol.p (fdl fd_live_Live_2) ?_
      refine Ol.p (ld one_L_L_L_int (Rd.blk (i := 1) rfl rfl)) ?_
      refine Ol.p mvi ?_
      refine Ol.p (ixn1 (ix := b) sl_L_L_L_int (Som.row (i := 5) hA3 (by omega))) ?_
      refine Ol.p (ld one_L_L_int (Rd.row (i := 5) hA3 ht3)) ?_
      refine Ol.p (lens sl_L_L_int) ?_
      refine Ol.p lsi ?_
      refine Ol.nil ?_
      refine Cd.cond rfl (fun h2 => ?_) (fun h2 => ?_)
      · have hil : i < x.ins.length + 1 := by
          simp only [decide_eq_true_eq] at h2; omega
        obtain ⟨iq, hiq⟩ := hiQ i hil
        have hgi : ((List.range (x.ins.length + 1)).map fun i => Value.slice (t.h i).1 (atL f b i).length (t.h i).2)[i]? = some (.slice (t.h i).1 (atL f b i).length (t.h i).2) := by rw [List.getElem?_map, List.getElem?_range hil]; rfl
        have hal := atL_lt (f := f) (b := b) (i := i)
        have e4 : (if ((max (mostTo f b) (mostA f b i) : Nat) : Int) < ((atL f b i).length : Int) then ((atL f b i).length : Int) else ((max (mostTo f b) (mostA f b i) : Nat) : Int)) = ((max (mostTo f b) (mostA f b (i + 1)) : Nat) : Int) := by
          rw [mostA_succ]; omega
        refine Cd.skip ?_
        refine Cd.seq ?_
        refine Cd.block ?_
        refine Cd.seq ?_
        refine Cd.region ?_
        refine Ol.p mvi ?_
        refine Ol.p (fdl fd_live_Live_2) ?_
        refine Ol.p (ld one_L_L_L_int (Rd.blk (i := 1) rfl rfl)) ?_
        refine Ol.p mvi ?_
        refine Ol.p (ixn1 (ix := b) sl_L_L_L_int (Som.row (i := 5) hA3 (by omega))) ?_
        refine Ol.p (ld one_L_L_int (Rd.row (i := 5) hA3 ht3)) ?_
        refine Ol.p mvi ?_
        refine Ol.p (ixn1 (ix := i) sl_L_L_int Som.lit) ?_
        refine Ol.p (ld one_L_int (Rd.row (i := iT + 3) hiT hgi)) ?_
        refine Ol.p (lens sl_L_int) ?_
        refine Ol.p maxi ?_
        refine Ol.p asi ?_
        refine Ol.nil ?_
        rw [e4]
        refine Cd.seq ?_
        refine Cd.region ?_
        refine Ol.p asi ?_
        refine Ol.nil ?_
        refine Cd.block ?_
        refine Cd.loop (fun m σ L => ∃ k, m = (atL f b i).length - k ∧ k ≤ (atL f b i).length ∧ Has σ [(1, .pointer (some ⟨g1, 0, none⟩)), (3, .pointer (some ⟨g3, 0, none⟩)), (5, .int .i64 ((max (mostTo f b) (mostA f b (i + 1)) : Nat) : Int)), (6, .pointer (some ⟨g6, 0, none⟩)), (14, .int .i64 b), (19, .int .i64 i), (20, .int .i64 k)] ∧ [blk g6 (.cells (encV S) 68), blk g3 (.cells #[.slice A1 f.blocks.length c1, .slice A2 f.blocks.length c2, .slice A3 f.blocks.length c3] 54), blk g1 (.cells f.cells.toArray 38)] ++ LV = L) (n := (atL f b i).length) ⟨0, rfl, Nat.zero_le _, ⟨rfl, rfl, rfl, rfl, rfl, rfl, rfl, trivial⟩, rfl⟩ ?_
        rintro _ σ L ⟨k, rfl, hk, hs, rfl⟩
        refine Cd.has hs ?_
        clear hs
        refine Cd.seq ?_
        refine Cd.seq ?_
        refine Cd.region ?_
        refine Ol.p mvi ?_
        refine Ol.p (fdl fd_live_Live_2) ?_
        refine Ol.p (ld one_L_L_L_int (Rd.blk (i := 1) rfl rfl)) ?_
        refine Ol.p mvi ?_
        refine Ol.p (ixn1 (ix := b) sl_L_L_L_int (Som.row (i := 5) hA3 (by omega))) ?_
        refine Ol.p (ld one_L_L_int (Rd.row (i := 5) hA3 ht3)) ?_
        refine Ol.p mvi ?_
        refine Ol.p (ixn1 (ix := i) sl_L_L_int Som.lit) ?_
        refine Ol.p (ld one_L_int (Rd.row (i := iT + 3) hiT hgi)) ?_
        refine Ol.p (lens sl_L_int) ?_
        refine Ol.p lsi ?_
        refine Ol.nil ?_
        refine Cd.cond rfl (fun h3 => ?_) (fun h3 => ?_)
        · have hkl : k < (atL f b i).length := by
            simp only [decide_eq_true_eq] at h3; omega
          obtain ⟨v, hv⟩ : ∃ v, (atL f b i)[k]? = some v := ⟨_, List.getElem?_eq_getElem hkl⟩
          obtain ⟨hvr, hvread⟩ := atL_read hx (by omega) (List.mem_of_getElem? hv)
          have hSv := hread v hvread
          refine Cd.skip ?_
          refine Cd.seq ?_
          refine Cd.block ?_
          refine Cd.seq ?_
          refine Cd.region ?_
          refine Ol.p (fdl fd_live_Live_2) ?_
          refine Ol.p (ld one_L_L_L_int (Rd.blk (i := 1) rfl rfl)) ?_
          refine Ol.p mvi ?_
          refine Ol.p (ixn1 (ix := b) sl_L_L_L_int (Som.row (i := 5) hA3 (by omega))) ?_
          refine Ol.p (ld one_L_L_int (Rd.row (i := 5) hA3 ht3)) ?_
          refine Ol.p mvi ?_
          refine Ol.p (ixn1 (ix := i) sl_L_L_int Som.lit) ?_
          refine Ol.p (ld one_L_int (Rd.row (i := iT + 3) hiT hgi)) ?_
          refine Ol.p mvi ?_
          refine Ol.p (ixn1 (ix := k) sl_L_int (Som.row (i := iq + 3) hiq (by omega))) ?_
          refine Ol.p (ld one_int (Rd.row (i := iq + 3) hiq (intsN_get hv))) ?_
          refine Ol.p (ixl1 (ix := v) ar_A201_bool) ?_
          refine Ol.p (ld one_bool (Rd.blk (i := 0) rfl (encV_get (i := v) (by omega)))) ?_
          refine Ol.p noti ?_
          refine Ol.nil ?_
          refine Cd.cond rfl (fun h4 => by rw [hSv] at h4; cases h4) (fun h4 => ?_)
          refine Cd.skip ?_
          refine Cd.region ?_
          refine Ol.p mvi ?_
          refine Ol.p addi ?_
          refine Ol.p asi ?_
          refine Ol.nil ?_
          exact ⟨(atL f b i).length - (k + 1), by omega, k + 1, rfl, by omega, ⟨rfl, rfl, rfl, rfl, rfl, rfl, rfl, trivial⟩, rfl⟩
        refine Cd.exit (id := 16) ?_
        refine Cd.region ?_
        refine Ol.p mvi ?_
        refine Ol.p addi ?_
        refine Ol.p asi ?_
        refine Ol.nil ?_
        exact ⟨x.ins.length + 1 - (i + 1), by omega, i + 1, rfl, by omega, ⟨rfl, rfl, rfl, rfl, rfl, rfl, trivial⟩, rfl⟩
      have hie : i = x.ins.length + 1 := by
        simp only [decide_eq_false_iff_not] at h2; omega
      refine Cd.exit (id := 14) ?_
      refine Cd.region ?_
      refine Ol.p mvi ?_
      refine Ol.p addi ?_
      refine Ol.p asi ?_
      refine Ol.nil ?_
      refine ⟨f.blocks.length - (b + 1), by omega, b + 1, rfl, by omega, ⟨rfl, rfl, congrArg (fun z : Nat => Value.int .i64 (z : Int)) ?_, rfl, rfl, trivial⟩, rfl⟩
      rw [hie, mostA_many hx]
      simp [mostTo, hx]
    have hbe : b = f.blocks.length := by
      simp only [decide_eq_false_iff_not] at h; omega
    subst hbe
    exact Cd.exit (id := 8) ⟨⟨rfl, rfl, trivial⟩, rfl⟩
  rintro σ' _ ⟨hs', rfl⟩
  refine Cd.has hs' ?_
  clear hs'
  refine Cd.seq ?_
  refine Cd.region ?_
  refine Ol.p mvi ?_
  refine Ol.p (ldw ag_api_Func (i := 2) rfl rfl) ?_
  refine Ol.s (cl en_live_Most (fun M w' hh => live_Most_ct (hf.now hh) hfit)) ?_
  refine Ol.p eqi ?_
  refine Ol.p asb ?_
  refine Ol.nil ?_
  exact Cd.ret ⟨.bool _, ret1 rfl rfl, [], .nil, by rw [if_pos hr]; simp, rfl⟩
end
end Go.Proofs.YtbcnejobnmljlaaDoor

/- Lists of structs that came in, opened. -/
namespace Go.Proofs.YtbcnejobnmljlaaDoor
set_option linter.unusedVariables false
open Go Go.ChangeShapes Go.WideShapes Go.ChangeAt Go.RowKit
set_option maxRecDepth 100000

section
variable {H : Type} {enc : TypeId × Value → H} {P : Program} {w : World}
/-- What came in is not endless. -/
def Lean_ (P : Program) (t : TypeId) (d : DataW H) : Prop := ∀ n ∈ d.weights P t, n ≤ reachBytes
theorem weightsAll_mem {P : Program} {e : TypeId} {d : DataW H} {n : Nat} (hn : n ∈ d.weights P e) : ∀ {l : List (DataW H)}, d ∈ l → n ∈ DataW.weightsAll P e l
  | x :: l, h => by
    simp only [DataW.weightsAll, List.mem_append]
    rcases List.mem_cons.1 h with rfl | h
    · exact .inl hn
    · exact .inr (weightsAll_mem hn h)
theorem lean_slice {t e : TypeId} {a b : List (DataW H)} (ht : P.underlying t = some (.slice e)) (h : Lean_ P t (.slice a b)) : (a.length + b.length) * P.bytesOf e ≤ reachBytes ∧ ∀ d ∈ a, Lean_ P e d := by
  unfold Lean_ at h
  simp only [DataW.weights, ht, List.mem_cons, List.mem_append] at h
  exact ⟨h _ (.inl rfl), fun d hd n hn => h n (.inr (.inl (weightsAll_mem hn hd)))⟩
theorem open_list {α : Type} {cf : α → List Value} {Good : α → Prop} {t e : TypeId} {c fuel : Nat} {cs : List Value} {x : DataW H × List MemPlace} (ht : P.underlying t = some (.slice e)) (hc : P.cellsOf e = c) (hc0 : 0 < c) (hby : 0 < P.bytesOf e)
    (hcf : ∀ a, (cf a).length = c)
    (hel : ∀ n cs y, DataW.trod enc P w 0 (fun _ => true) true n e cs = some y → Lean_ P e y.1 → ∃ a : α, cs = cf a ∧ Good a)
    (h : DataW.trod enc P w 0 (fun _ => true) true fuel t cs = some x) (hw : Lean_ P t x.1) :
    ∃ (A : Option Addr) (cp : Nat) (l : List α), cs = [.slice A l.length cp] ∧ l.length ≤ cp ∧ Reads w w.heap.size c A l.length (l.flatMap cf) ∧ (∀ a ∈ l, Good a) ∧ l.length < 2 ^ 50 := by
  rcases Go.Deep.open_slice ht h with ⟨rfl, rfl⟩ | ⟨a, len, cap, m, n, D, Pl, rfl, _, hl, _, hm, rfl, hx⟩
  · exact ⟨none, 0, [], rfl, Nat.le_refl _, ⟨by simp, fun h => absurd h (by simp)⟩, by simp, by simp⟩
  · have hm : m = cap := by simpa using hm
    subst hm
    obtain ⟨hsz, hws⟩ := lean_slice ht hw
    have hsz : len < 2 ^ 50 := by
      simp only [List.length_map, List.length_range] at hsz
      have : reachBytes < 2 ^ 47 := reachBytes_lt
      have h2 : len + (m - len) ≤ (len + (m - len)) * P.bytesOf e := Nat.le_mul_of_pos_right _ hby
      omega
    have hex : ∀ i, i < len → ∃ v : α, Good v ∧ w.cells? 0 (a.add (i * c)) c = some (cf v) := fun i hi => by
      obtain ⟨cs', h1, h2⟩ := hx i (by omega)
      obtain ⟨v, rfl, hg⟩ := hel n cs' _ h2 (hws _ (List.mem_map.2 ⟨i, by simpa using hi, rfl⟩))
      rw [hc] at h1
      exact ⟨v, hg, h1⟩
    have hL : ∃ l : List α, l.length = len ∧ ∀ i v, l[i]? = some v → Good v ∧ w.cells? 0 (a.add (i * c)) c = some (cf v) := by
      clear hws hx hw h hm
      have : ∀ k, k ≤ len → ∃ l : List α, l.length = k ∧ ∀ i v, l[i]? = some v → Good v ∧ w.cells? 0 (a.add (i * c)) c = some (cf v) := by
        intro k
        induction k with
        | zero => exact fun _ => ⟨[], rfl, fun i v h => by simp at h⟩
        | succ k ih =>
          intro hk
          obtain ⟨l, h1, h2⟩ := ih (by omega)
          obtain ⟨v, hv⟩ := hex k (by omega)
          refine ⟨l ++ [v], by simp [h1], fun i u hu => ?_⟩
          rw [List.getElem?_append] at hu
          split at hu
          · exact h2 i u hu
          · rename_i hlt
            have hi : i - l.length = 0 := by
              have := (List.getElem?_eq_some_iff.1 hu).1
              simp at this; omega
            rw [hi] at hu
            simp at hu
            subst hu
            have : i = k := by omega
            rw [this]; exact hv
      exact this len (Nat.le_refl _)
    obtain ⟨l, hll, hg⟩ := hL
    have hcell : ∀ i v j, l[i]? = some v → j < c → w.cell? (a.add (i * c + j)) = (cf v)[j]? := fun i v j hv hj => by
      have := (World.cells?_some (hg i v hv).2).2.2 j hj
      rw [Go.Deep.add_add] at this
      exact this
    refine ⟨some a, m, l, by rw [hll], by omega, ⟨by rw [flat_len hcf], fun hn => ⟨a, rfl, ?_, fun j u hu => ?_⟩⟩, fun v hv => ?_, by omega⟩
    · obtain ⟨v, hv⟩ : ∃ v, l[0]? = some v := ⟨_, List.getElem?_eq_getElem hn⟩
      have h0 := hcell 0 v 0 hv hc0
      have : (cf v)[0]? = some ((cf v)[0]'(by rw [hcf]; exact hc0)) := List.getElem?_eq_getElem _
      rw [this] at h0
      have := World.block_lt_of_cell? w _ h0
      simpa [Addr.add] using this
    · have hjl : j < l.length * c := by
        have := (List.getElem?_eq_some_iff.1 hu).1
        rwa [flat_len hcf] at this
      have hd : j / c < l.length := Nat.div_lt_of_lt_mul (by rw [Nat.mul_comm]; exact hjl)
      have hr : j % c < c := Nat.mod_lt _ hc0
      have hj : j = j / c * c + j % c := by rw [Nat.mul_comm]; exact (Nat.div_add_mod j c).symm
      have hv : l[j / c]? = some l[j / c] := List.getElem?_eq_getElem hd
      rw [hj, flat_get hcf _ _ _ _ hv hr] at hu
      rw [hj, hcell _ _ _ hv hr]
      exact hu
    · obtain ⟨i, hi⟩ := List.mem_iff_getElem?.1 hv
      exact (hg i v hi).1
end
end Go.Proofs.YtbcnejobnmljlaaDoor

/- A function of the program's that came in, opened. -/
namespace Go.Proofs.YtbcnejobnmljlaaDoor
set_option linter.unusedVariables false
open Go Go.ChangeShapes Go.WideShapes Go.ChangeAt Go.RowKit
set_option maxRecDepth 100000

theorem lean_struct {H : Type} {P : Program} {t u : TypeId} {fs : Array Field} {parts : List (DataW H)} {d : DataW H} {j : Nat} (ht : P.underlying t = some (.struct fs)) (h : Lean_ P t (.agg parts)) (hu : (fs.toList.map (·.type))[j]? = some u) (hd : parts[j]? = some d) : Lean_ P u d := by
  unfold Lean_ at h ⊢
  simp only [DataW.weights, ht] at h
  exact fun n hn => h n (DataW.weights_mem_each hu hd n hn)
theorem list8 {α : Type} {l : List α} (h : l.length = 8) : ∃ a b c d e f g i, l = [a, b, c, d, e, f, g, i] := by
  match l, h with
  | [a, b, c, d, e, f, g, i], _ => exact ⟨a, b, c, d, e, f, g, i, rfl⟩
theorem i64_wf {n : Int} (h : (Lit.int .i64 n).wf = true) : -9223372036854775808 ≤ n ∧ n ≤ 9223372036854775807 := by
  have := i64_of_wf h
  unfold I64 at this; omega
theorem lean_each {H : Type} {P : Program} {ts : List TypeId} {ds : List (DataW H)} (h : (DataW.weightsEach P ts ds).all (· ≤ reachBytes) = true) {j : Nat} {t : TypeId} {d : DataW H} (ht : ts[j]? = some t) (hd : ds[j]? = some d) : Lean_ P t d := fun n hn => by
  simpa using List.all_eq_true.1 h n (DataW.weights_mem_each ht hd n hn)
section
theorem cells_Ins : Tryd.prog.cellsOf 72 = 8 := by kernel_rfl
theorem cells_Op : Tryd.prog.cellsOf 70 = 1 := by kernel_rfl
theorem cells_Lint : Tryd.prog.cellsOf 22 = 1 := by kernel_rfl
def IR (n : Int) : Prop := -9223372036854775808 ≤ n ∧ n ≤ 9223372036854775807
def GoodI (W : World) (i : RIns) : Prop := (∀ n ∈ [i.op, i.dst, i.a, i.b, i.imm, i.callee, i.many], IR n) ∧ i.args.length < 2 ^ 50 ∧ i.args.length ≤ i.aC ∧ (∀ n ∈ i.args, IR n) ∧ Reads W W.heap.size 1 i.aA i.args.length (ints i.args)
theorem flat_ints : ∀ l : List Int, l.flatMap (fun n : Int => [Value.int .i64 n]) = ints l
  | [] => rfl
  | a :: l => by rw [List.flatMap_cons, flat_ints l]; rfl
section
variable {H : Type} {enc : TypeId × Value → H} {W : World}
theorem open_intl {n : Nat} {cs : List Value} {y : DataW H × List MemPlace} (h : DataW.trod enc Tryd.prog W 0 (fun _ => true) true n 22 cs = some y) (hw : Lean_ Tryd.prog 22 y.1) :
    ∃ (A : Option Addr) (cp : Nat) (l : List Int), cs = [.slice A l.length cp] ∧ l.length ≤ cp ∧ Reads W W.heap.size 1 A l.length (ints l) ∧ (∀ a ∈ l, IR a) ∧ l.length < 2 ^ 50 := by
  obtain ⟨A, cp, l, h1, h2, h3, h4, h5⟩ := open_list (cf := fun n : Int => [.int .i64 n]) (Good := IR) Tryd.underlying22 cells_int (by decide) (by rw [bytes_int]; decide) (fun _ => rfl) (fun n cs y h _ => by
    obtain ⟨z, rfl, rfl, hw⟩ := DataW.trod_int Tryd.underlying3 h
    exact ⟨z, rfl, i64_wf hw⟩) h hw
  refine ⟨A, cp, l, h1, h2, ?_, h4, h5⟩
  rw [flat_ints] at h3
  exact h3
theorem open_ins {n : Nat} {cs : List Value} {y : DataW H × List MemPlace} (h : DataW.trod enc Tryd.prog W 0 (fun _ => true) true n 72 cs = some y) (hw : Lean_ Tryd.prog 72 y.1) : ∃ i : RIns, cs = i.cells ∧ GoodI W i := by
  obtain ⟨xs, m, _, rfl, hl, hlen, hf⟩ := DataW.trod_struct Tryd.underlying72 h
  simp only [List.size_toArray, List.length_cons, List.length_nil] at hlen
  obtain ⟨y0, y1, y2, y3, y4, y5, y6, y7, rfl⟩ := list8 hlen
  have hl8 : cs.length = 8 := hl.trans cells_Ins
  obtain ⟨c0, c1, c2, c3, c4, c5, c6, c7, rfl⟩ := list8 hl8
  have f0 : DataW.trod enc Tryd.prog W 0 (fun _ => true) true m 70 [c0] = some y0 := by
    have q := hf 0 _ rfl
    change DataW.trod enc Tryd.prog W 0 (fun _ => true) true m 70 (List.take (Tryd.prog.cellsOf 70) (List.drop 0 [c0, c1, c2, c3, c4, c5, c6, c7])) = some y0 at q
    rw [cells_Op] at q
    exact q
  have f1 : DataW.trod enc Tryd.prog W 0 (fun _ => true) true m 3 [c1] = some y1 := by
    have q := hf 1 _ rfl
    change DataW.trod enc Tryd.prog W 0 (fun _ => true) true m 3 (List.take (Tryd.prog.cellsOf 3) (List.drop 1 [c0, c1, c2, c3, c4, c5, c6, c7])) = some y1 at q
    rw [cells_int] at q
    exact q
  have f2 : DataW.trod enc Tryd.prog W 0 (fun _ => true) true m 3 [c2] = some y2 := by
    have q := hf 2 _ rfl
    change DataW.trod enc Tryd.prog W 0 (fun _ => true) true m 3 (List.take (Tryd.prog.cellsOf 3) (List.drop 2 [c0, c1, c2, c3, c4, c5, c6, c7])) = some y2 at q
    rw [cells_int] at q
    exact q
  have f3 : DataW.trod enc Tryd.prog W 0 (fun _ => true) true m 3 [c3] = some y3 := by
    have q := hf 3 _ rfl
    change DataW.trod enc Tryd.prog W 0 (fun _ => true) true m 3 (List.take (Tryd.prog.cellsOf 3) (List.drop 3 [c0, c1, c2, c3, c4, c5, c6, c7])) = some y3 at q
    rw [cells_int] at q
    exact q
  have f4 : DataW.trod enc Tryd.prog W 0 (fun _ => true) true m 3 [c4] = some y4 := by
    have q := hf 4 _ rfl
    change DataW.trod enc Tryd.prog W 0 (fun _ => true) true m 3 (List.take (Tryd.prog.cellsOf 3) (List.drop 4 [c0, c1, c2, c3, c4, c5, c6, c7])) = some y4 at q
    rw [cells_int] at q
    exact q
  have f5 : DataW.trod enc Tryd.prog W 0 (fun _ => true) true m 3 [c5] = some y5 := by
    have q := hf 5 _ rfl
    change DataW.trod enc Tryd.prog W 0 (fun _ => true) true m 3 (List.take (Tryd.prog.cellsOf 3) (List.drop 5 [c0, c1, c2, c3, c4, c5, c6, c7])) = some y5 at q
    rw [cells_int] at q
    exact q
  have f6 : DataW.trod enc Tryd.prog W 0 (fun _ => true) true m 22 [c6] = some y6 := by
    have q := hf 6 _ rfl
    change DataW.trod enc Tryd.prog W 0 (fun _ => true) true m 22 (List.take (Tryd.prog.cellsOf 22) (List.drop 6 [c0, c1, c2, c3, c4, c5, c6, c7])) = some y6 at q
    rw [cells_Lint] at q
    exact q
  have f7 : DataW.trod enc Tryd.prog W 0 (fun _ => true) true m 3 [c7] = some y7 := by
    have q := hf 7 _ rfl
    change DataW.trod enc Tryd.prog W 0 (fun _ => true) true m 3 (List.take (Tryd.prog.cellsOf 3) (List.drop 7 [c0, c1, c2, c3, c4, c5, c6, c7])) = some y7 at q
    rw [cells_int] at q
    exact q
  obtain ⟨z0, e0, _, w0⟩ := DataW.trod_int Tryd.underlying70 f0
  obtain ⟨z1, e1, _, w1⟩ := DataW.trod_int Tryd.underlying3 f1
  obtain ⟨z2, e2, _, w2⟩ := DataW.trod_int Tryd.underlying3 f2
  obtain ⟨z3, e3, _, w3⟩ := DataW.trod_int Tryd.underlying3 f3
  obtain ⟨z4, e4, _, w4⟩ := DataW.trod_int Tryd.underlying3 f4
  obtain ⟨z5, e5, _, w5⟩ := DataW.trod_int Tryd.underlying3 f5
  obtain ⟨z7, e7, _, w7⟩ := DataW.trod_int Tryd.underlying3 f7
  obtain ⟨A, cp, l, e6, h2, h3, h4, h5⟩ := open_intl f6 (lean_struct Tryd.underlying72 (parts := [y0.1, y1.1, y2.1, y3.1, y4.1, y5.1, y6.1, y7.1]) hw (j := 6) rfl rfl)
  simp only [List.cons.injEq, and_true] at e0 e1 e2 e3 e4 e5 e6 e7
  subst e0 e1 e2 e3 e4 e5 e6 e7
  refine ⟨⟨z0, z1, z2, z3, z4, z5, A, cp, l, z7⟩, rfl, ?_, h5, h2, h4, h3⟩
  intro n hn
  simp only [List.mem_cons, List.not_mem_nil, or_false] at hn
  rcases hn with rfl | rfl | rfl | rfl | rfl | rfl | rfl
  all_goals exact i64_wf (by assumption)
theorem list4 {α : Type} {l : List α} (h : l.length = 4) : ∃ a b c d, l = [a, b, c, d] := by
  match l, h with
  | [a, b, c, d], _ => exact ⟨a, b, c, d, rfl⟩
theorem list5 {α : Type} {l : List α} (h : l.length = 5) : ∃ a b c d e, l = [a, b, c, d, e] := by
  match l, h with
  | [a, b, c, d, e], _ => exact ⟨a, b, c, d, e, rfl⟩
theorem list3 {α : Type} {l : List α} (h : l.length = 3) : ∃ a b c, l = [a, b, c] := by
  match l, h with
  | [a, b, c], _ => exact ⟨a, b, c, rfl⟩
theorem list2 {α : Type} {l : List α} (h : l.length = 2) : ∃ a b, l = [a, b] := by
  match l, h with
  | [a, b], _ => exact ⟨a, b, rfl⟩
theorem cells_Term : Tryd.prog.cellsOf 64 = 4 := by kernel_rfl
theorem cells_Kind : Tryd.prog.cellsOf 61 = 1 := by kernel_rfl
theorem cells_A2 : Tryd.prog.cellsOf 62 = 2 := by kernel_rfl
theorem cells_Block : Tryd.prog.cellsOf 66 = 5 := by kernel_rfl
theorem cells_Func : Tryd.prog.cellsOf 38 = 2 := by kernel_rfl
theorem cells_LIns : Tryd.prog.cellsOf 60 = 1 := by kernel_rfl
theorem cells_LBlk : Tryd.prog.cellsOf 36 = 1 := by kernel_rfl
theorem open_term {n : Nat} {cs : List Value} {y : DataW H × List MemPlace} (h : DataW.trod enc Tryd.prog W 0 (fun _ => true) true n 64 cs = some y) : ∃ t : Tm, cs = t.cells ∧ ∀ n ∈ [t.kind, t.a, t.t0, t.t1], IR n := by
  obtain ⟨xs, m, _, rfl, hl, hlen, hf⟩ := DataW.trod_struct Tryd.underlying64 h
  simp only [List.size_toArray, List.length_cons, List.length_nil] at hlen
  obtain ⟨y0, y1, y2, rfl⟩ := list3 hlen
  have hl4 : cs.length = 4 := hl.trans cells_Term
  obtain ⟨c0, c1, c2, c3, rfl⟩ := list4 hl4
  have f0 : DataW.trod enc Tryd.prog W 0 (fun _ => true) true m 61 [c0] = some y0 := by
    have q := hf 0 _ rfl
    change DataW.trod enc Tryd.prog W 0 (fun _ => true) true m 61 (List.take (Tryd.prog.cellsOf 61) (List.drop 0 [c0, c1, c2, c3])) = some y0 at q
    rw [cells_Kind] at q
    exact q
  have f1 : DataW.trod enc Tryd.prog W 0 (fun _ => true) true m 3 [c1] = some y1 := by
    have q := hf 1 _ rfl
    change DataW.trod enc Tryd.prog W 0 (fun _ => true) true m 3 (List.take (Tryd.prog.cellsOf 3) (List.drop 1 [c0, c1, c2, c3])) = some y1 at q
    rw [cells_int] at q
    exact q
  have f2 : DataW.trod enc Tryd.prog W 0 (fun _ => true) true m 62 [c2, c3] = some y2 := by
    have q := hf 2 _ rfl
    change DataW.trod enc Tryd.prog W 0 (fun _ => true) true m 62 (List.take (Tryd.prog.cellsOf 62) (List.drop 2 [c0, c1, c2, c3])) = some y2 at q
    rw [cells_A2] at q
    exact q
  obtain ⟨xs, m2, _, e2, hl2, hlen2, hf2⟩ := DataW.trod_array Tryd.underlying62 f2
  obtain ⟨y3, y4, rfl⟩ := list2 hlen2
  have g0 : DataW.trod enc Tryd.prog W 0 (fun _ => true) true m2 3 [c2] = some y3 := by
    have q := hf2 0 (by decide)
    rw [cells_int] at q
    exact q
  have g1 : DataW.trod enc Tryd.prog W 0 (fun _ => true) true m2 3 [c3] = some y4 := by
    have q := hf2 1 (by decide)
    rw [cells_int] at q
    exact q
  obtain ⟨z0, e0, _, w0⟩ := DataW.trod_int Tryd.underlying61 f0
  obtain ⟨z1, e1, _, w1⟩ := DataW.trod_int Tryd.underlying3 f1
  obtain ⟨z2, e2, _, w2⟩ := DataW.trod_int Tryd.underlying3 g0
  obtain ⟨z3, e3, _, w3⟩ := DataW.trod_int Tryd.underlying3 g1
  simp only [List.cons.injEq, and_true] at e0 e1 e2 e3
  subst e0 e1 e2 e3
  refine ⟨⟨z0, z1, z2, z3⟩, rfl, ?_⟩
  intro n hn
  simp only [List.mem_cons, List.not_mem_nil, or_false] at hn
  rcases hn with rfl | rfl | rfl | rfl
  all_goals exact i64_wf (by assumption)
def GoodB (W : World) (b : RBlk) : Prop := (∀ n ∈ [b.term.kind, b.term.a, b.term.t0, b.term.t1], IR n) ∧ b.ins.length < 2 ^ 50 ∧ b.ins.length ≤ b.iC ∧ (∀ i ∈ b.ins, GoodI W i) ∧ Reads W W.heap.size 8 b.iA b.ins.length (b.ins.flatMap RIns.cells)
theorem open_block {n : Nat} {cs : List Value} {y : DataW H × List MemPlace} (h : DataW.trod enc Tryd.prog W 0 (fun _ => true) true n 66 cs = some y) (hw : Lean_ Tryd.prog 66 y.1) : ∃ b : RBlk, cs = b.cells ∧ GoodB W b := by
  obtain ⟨xs, m, _, rfl, hl, hlen, hf⟩ := DataW.trod_struct Tryd.underlying66 h
  simp only [List.size_toArray, List.length_cons, List.length_nil] at hlen
  obtain ⟨y0, y1, rfl⟩ := list2 hlen
  have hl5 : cs.length = 5 := hl.trans cells_Block
  obtain ⟨c0, c1, c2, c3, c4, rfl⟩ := list5 hl5
  have f0 : DataW.trod enc Tryd.prog W 0 (fun _ => true) true m 60 [c0] = some y0 := by
    have q := hf 0 _ rfl
    change DataW.trod enc Tryd.prog W 0 (fun _ => true) true m 60 (List.take (Tryd.prog.cellsOf 60) (List.drop 0 [c0, c1, c2, c3, c4])) = some y0 at q
    rw [cells_LIns] at q
    exact q
  have f1 : DataW.trod enc Tryd.prog W 0 (fun _ => true) true m 64 [c1, c2, c3, c4] = some y1 := by
    have q := hf 1 _ rfl
    change DataW.trod enc Tryd.prog W 0 (fun _ => true) true m 64 (List.take (Tryd.prog.cellsOf 64) (List.drop 1 [c0, c1, c2, c3, c4])) = some y1 at q
    rw [cells_Term] at q
    exact q
  obtain ⟨t, e1, ht⟩ := open_term f1
  obtain ⟨A, cp, l, e0, h1, h2, h3, h4⟩ := open_list (cf := RIns.cells) (Good := GoodI W) Tryd.underlying60 cells_Ins (by decide) (of_decide_eq_true (by kernel_rfl)) RIns.len (fun n cs y h hw => open_ins h hw) f0 (lean_struct Tryd.underlying66 (parts := [y0.1, y1.1]) hw (j := 0) rfl rfl)
  simp only [List.cons.injEq, and_true] at e0
  subst e0
  rw [e1]
  exact ⟨⟨A, cp, l, t⟩, rfl, ht, h4, h1, h3, h2⟩
theorem reads_func {v : Value} {d : DataW H} {p : List MemPlace} (h : DataW.Trod enc Tryd.prog W 0 (fun _ => true) true 38 v d p) (hv : ∃ cs, v = .agg cs) (hw : Lean_ Tryd.prog 38 d) : ∃ f : RFun, v = f.val ∧ FunAt W W.heap.size f ∧ Fit f := by
  obtain ⟨fuel, h⟩ := h
  obtain ⟨cs, rfl⟩ := hv
  obtain ⟨xs, m, _, e, hl, hlen, hf⟩ := DataW.trod_struct Tryd.underlying38 h
  simp only [List.size_toArray, List.length_cons, List.length_nil] at hlen
  obtain ⟨y0, y1, rfl⟩ := list2 hlen
  have hl2 : cs.toList.length = 2 := by simpa [Value.cells] using hl.trans cells_Func
  obtain ⟨c0, c1, hcs⟩ := list2 hl2
  have ed : d = .agg [y0.1, y1.1] := congrArg Prod.fst e
  subst ed
  simp only [Value.cells, hcs] at hf
  have f0 : DataW.trod enc Tryd.prog W 0 (fun _ => true) true m 22 [c0] = some y0 := by
    have q := hf 0 _ rfl
    change DataW.trod enc Tryd.prog W 0 (fun _ => true) true m 22 (List.take (Tryd.prog.cellsOf 22) (List.drop 0 [c0, c1])) = some y0 at q
    rw [cells_Lint] at q
    exact q
  have f1 : DataW.trod enc Tryd.prog W 0 (fun _ => true) true m 36 [c1] = some y1 := by
    have q := hf 1 _ rfl
    change DataW.trod enc Tryd.prog W 0 (fun _ => true) true m 36 (List.take (Tryd.prog.cellsOf 36) (List.drop 1 [c0, c1])) = some y1 at q
    rw [cells_LBlk] at q
    exact q
  obtain ⟨A, cp, l, e0, h1, h2, h3, h4⟩ := open_intl f0 (lean_struct Tryd.underlying38 (parts := [y0.1, y1.1]) hw (j := 0) rfl rfl)
  obtain ⟨A2, cp2, l2, e1, k1, k2, k3, k4⟩ := open_list (cf := RBlk.cells) (Good := GoodB W) Tryd.underlying36 cells_Block (by decide) (of_decide_eq_true (by kernel_rfl)) RBlk.len (fun n cs y h hw => open_block h hw) f1 (lean_struct Tryd.underlying38 (parts := [y0.1, y1.1]) hw (j := 1) rfl rfl)
  simp only [List.cons.injEq, and_true] at e0 e1
  subst e0 e1
  refine ⟨⟨A, cp, l, A2, cp2, l2⟩, ?_, ⟨h2, k2, fun b hb => (k3 b hb).2.2.2.2, fun b hb i hi => ((k3 b hb).2.2.2.1 i hi).2.2.2.2⟩, ?_⟩
  · have : cs = [Value.slice A l.length cp, .slice A2 l2.length cp2].toArray := by rw [← hcs]
    rw [this]; rfl
  · exact ⟨h3, h4, k4, h1, k1, fun b hb => (k3 b hb).2.1, fun b hb => (k3 b hb).2.2.1, fun b hb => (k3 b hb).1, fun b hb i hi => ((k3 b hb).2.2.2.1 i hi).1, fun b hb i hi => ((k3 b hb).2.2.2.1 i hi).2.1, fun b hb i hi => ((k3 b hb).2.2.2.1 i hi).2.2.1, fun b hb i hi => ((k3 b hb).2.2.2.1 i hi).2.2.2.1⟩
end
end
end Go.Proofs.YtbcnejobnmljlaaDoor

/- LiveLeast (the tied card): for every input that can be read, the law LiveLeast returns true and its arguments read as before. Conditions: the row, its listed table of math/bits tied to the text of the program. -/
namespace Go.Proofs.YtbcnejobnmljlaaDoor
set_option linter.unusedVariables false
open Go Go.ChangeShapes Go.WideShapes Go.ChangeAt Go.RowKit
set_option maxRecDepth 100000

theorem liveLeast_lifted (os : Os) (started : os.Started) (H : Type) (enc : TypeId × Value → H) :
    ReturnsInHanded {} Tryd.checked os 9 .any (fun w args => (Rows.liveLeastSpec.pre enc Tryd.prog Tryd.f9 [] false w args ∧ laidMetH Tryd.prog tabL w) ∧ sizedMet enc Tryd.prog Tryd.f9 (OpenSpec.ofChange Rows.liveLeastSpec) false w args)
      (Rows.liveLeastSpec.post enc Tryd.prog Tryd.f9 false true false false) := by
  refine returnsInHanded_of_change_and (C := Tryd.checked) (X := fun w _ => laidMetH Tryd.prog tabL w) (fun _ _ _ hh h => h.of_heap hh) own_ started (by kernel_rfl) Tryd.func9
    (ChangeSpec.witness_shaped (enc := enc) (C := Tryd.checked) (os := os) (X := fun w _ => laidMetH Tryd.prog tabL w) false (World.doorLaid Tryd.prog 14 os) #[.agg #[.slice none 0 0, .slice none 0 0]] 8 rfl (World.shaped_of_RefB (by kernel_rfl) (by kernel_rfl)) (by kernel_rfl) (by kernel_rfl) (by kernel_rfl) (door_met os _)) ?_
  intro W base args ds gs before hval0 hW _ hsz0 hL _
  have hT := tabs_of_laid hL
  have hval : ∀ (j : Nat) t v, Tryd.f9.params[j]? = some t → args[j]? = some v → Value.okWide Tryd.prog W .any base t v := hval0
  have hW' := hW
  obtain ⟨p, q, hA0, hV, rfl, hfz, hnd⟩ := hW
  have hA : DataW.TrodAll enc Tryd.prog W 0 (fun _ => true) true Tryd.f9.params.toList args.toList ds p := hA0
  have hsz : (DataW.weightsEach Tryd.prog (Tryd.f9.params.toList ++ Rows.liveLeastSpec.plain.varTypes Tryd.prog) (ds ++ gs)).all (· ≤ reachBytes) = true := hsz0
  rw [Tryd.params9] at hA hval hsz
  obtain ⟨v0, vs0, d0, ds0, p0, q0, hargs, rfl, rfl, h0, r0⟩ := trodAll_cons hA
  obtain ⟨rfl, rfl, rfl⟩ := trodAll_nil r0
  obtain rfl : args = #[v0] := by cases args; simp_all
  obtain ⟨rfl, rfl⟩ := trodVars_none hV
  have k0 := h0
  have lt0 : ∀ x ∈ p0, x.block < W.heap.size := by obtain ⟨m, hm⟩ := k0; exact DataW.trod_lt m _ _ _ hm
  obtain ⟨z0, rfl, x0, y0⟩ := reads_func h0 (Exists.imp (fun _ h => h.1) (okWide_struct Tryd.underlying38 (hval 0 38 v0 rfl rfl))) (lean_each hsz (j := 0) rfl rfl)
  clear hA0 hval0
  refine ((law16_LiveLeast_ct hT x0 y0).calls).mono fun e W' ⟨v, he, L, hh, hv, _⟩ => ?_
  subst hv
  subst he
  have bel := hh.below
  exact ⟨_, rfl, _, _, _, [], _, [], hW', trodAll_mk1 (shut_bool Tryd.underlying4 _), (trodAll_cons_mk (Below.trod laidOut_ (by kernel_rfl) (of_decide_eq_true (by kernel_rfl)) k0 bel lt0) trodAll_mk0), rfl, bel.frame _, fun h => by cases h⟩
theorem liveLeast_said : Rows.LiveLeastSaid :=
  OpenClaim.holds_of_wide 9 Tryd.f9 rfl rfl rfl rfl rfl rfl rfl ⟨rfl, rfl, rfl, rfl, rfl⟩ rfl rfl rfl rfl rfl (by kernel_rfl) Tryd.func9 (by kernel_rfl)
    (of_decide_eq_true (by kernel_rfl)) (by unfold Func.isWrapper; rw [if_neg (of_decide_eq_false (by kernel_rfl))]; exact ⟨rfl, rfl⟩)
    (fun os started H enc _ => liveLeast_lifted os started H enc)
theorem liveLeast_card : Rows.LiveLeastCardSaid :=
  Claim7.holds_tied_plain_at .later [] [.data] true Rows.liveLeastCard.stood.harness false liveLeast_said (fun _ h => by cases h) (by kernel_rfl) (fun _ h => by cases h) liveLeast_row_tie rfl ⟨rfl, rfl⟩ (by kernel_rfl) rfl
    (fun f fn hf hfn => by
      obtain rfl : f = 9 := Option.some.inj ((show Tryd.prog.funcNamed "intarsia/intarsialaw16.LiveLeast" = some 9 by kernel_rfl).symm.trans hf) |>.symm
      obtain rfl : fn = Tryd.f9 := (Option.some.inj (Tryd.func9.symm.trans hfn)).symm
      exact ⟨by kernel_rfl, fun j t ht => by
        rw [Tryd.params9] at ht
        have hm : t ∈ [38] := by simpa using Array.mem_of_getElem? ht
        have hall : ([38].all fun u => !Tryd.prog.wantsStandIn u) = true := by kernel_rfl
        exact (show Tryd.prog.wantsStandIn t = false by simpa using List.all_eq_true.1 hall t hm)⟩)
    (by kernel_rfl)
end Go.Proofs.YtbcnejobnmljlaaDoor

