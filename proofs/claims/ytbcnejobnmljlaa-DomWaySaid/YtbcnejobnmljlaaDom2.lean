/- The package dom: who stands over whom, walked. -/
import Derived.Test.YtbcnejobnmljlaaDom
import Derived.Test.YtbcnejobnmljlaaDomR
namespace Go.Proofs.Ytbcnejobnmljlaa
set_option linter.unusedVariables false
open Go Go.RowKit
set_option maxRecDepth 100000

section
/-- The blocks up from one, as the iterator goes through them. -/
def upsC (ul pl : List Int) (N : Nat) (b : Int) : List Nat := bif inP pl b then chF (asU ul) N b.toNat else []
def ysC (l : List Nat) : List (List Value) := l.map fun d : Nat => [.int .i64 (d : Int)]
theorem ysC_one (l : List Nat) : ∀ vs ∈ ysC l, vs.length = 1 := by
  intro vs hvs
  unfold ysC at hvs
  rw [List.mem_map] at hvs
  obtain ⟨_, _, rfl⟩ := hvs
  rfl
theorem ysC_get {l : List Nat} {k : Nat} {vs : List Value} (h : (ysC l)[k]? = some vs) : ∃ d, l[k]? = some d ∧ vs = [.int .i64 (d : Int)] ∧ k < l.length := by
  unfold ysC at h
  rw [List.getElem?_map] at h
  cases hn : l[k]? with
  | none => rw [hn] at h; cases h
  | some e => rw [hn] at h; cases h; exact ⟨e, rfl, rfl, (List.getElem?_eq_some_iff.1 hn).1⟩
/-- A tree that can be gone up. -/
structure Up (ul pl : List Int) (N : Nat) (G : Gra) : Prop where
  tr : Tr G (asU ul)
  len : ∀ x, G.R x → x < ul.length ∧ x < pl.length ∧ G.pl x < N
  inn : ∀ b, inP pl b = true → G.R b.toNat ∧ 0 ≤ b
  pln : pl.length < 2 ^ 50
  neg : ∀ x, asU ul x = -1 ∨ 0 ≤ asU ul x
def ChainV (gT gB : Nat) : Value := .func (.func 37) #[] #[.pointer (some ⟨gT, 0, none⟩), .pointer (some ⟨gB, 0, none⟩)]
theorem dom_chain_ct {w : World} {AU AP : Option Addr} {nU nP cU cP : Nat} {b : Int} : Ct Try.prog 29 #[treeV AU AP nU nP cU cP, .int .i64 b] w (fun v L => ∃ gT gB, v = ChainV gT gB ∧ L = [blk gB (.cells #[.int .i64 b] 3), blk gT (.cells #[.slice AU nU cU, .slice AP nP cP] 57)]) := by
  refine Ct.mk Try.func29 rfl rfl ?_
  refine Cd.seq ?_
  refine Cd.region ?_
  refine Ol.x bxg ?_
  rintro _ _ ⟨g2, rfl, rfl⟩
  refine Ol.x bxi ?_
  rintro _ _ ⟨g3, rfl, rfl⟩
  refine Ol.p (as_ rfl) ?_
  refine Ol.nil ?_
  refine Cd.seq ?_
  refine Cd.region ?_
  refine Ol.p mkf ?_
  refine Ol.p asf ?_
  refine Ol.nil ?_
  exact Cd.ret ⟨_, ret1 rfl rfl, _, .all, g2, g3, rfl, rfl⟩
set_option maxHeartbeats 1000000 in
theorem dom_chain_1_it {w0 : World} {B gT gB : Nat} {AU AP : Option Addr} {cU cP N : Nat} {ul pl : List Int} {G : Gra} {b : Int} (hU : Reads w0 B 1 AU ul.length (ints ul)) (hP : Reads w0 B 1 AP pl.length (ints pl)) (hpn : pl.length < 2 ^ 50) (h' : inP pl b = true → Up ul pl N G) (hb : -9223372036854775808 ≤ b ∧ b ≤ 9223372036854775807) :
    It Try.prog w0 B 37 #[.pointer (some ⟨gT, 0, none⟩), .pointer (some ⟨gB, 0, none⟩)] [blk gB (.cells #[.int .i64 b] 3), blk gT (.cells #[.slice AU ul.length cU, .slice AP pl.length cP] 57)] (ysC (upsC ul pl N b)) := by
  intro y J Jx L0 hY h0
  refine Cm.mk Try.func37 rfl rfl fun M => ?_
  have hret : ∀ {e : Exit} {σ : Env} {Lj D : List Res}, (e = .ret ∨ e = .normal) → (J (ysC (upsC ul pl N b)).length Lj ∨ ∃ k, Jx k Lj) → Out ⟨Try.prog, 20, none, w0, B, M⟩ Try.f37 (fun _ L => ∃ Own' Lj, L = Own' ++ Lj ∧ (J (ysC (upsC ul pl N b)).length Lj ∨ ∃ k, Jx k Lj)) e σ (D ++ Lj) := fun {e σ Lj D} he h => by
    rcases he with rfl | rfl <;> exact ⟨_, ret0 rfl, _, .all, D, Lj, rfl, h⟩
  refine Cd.seq ?_
  refine Cd.seq ?_
  refine Cd.region ?_
  refine Ol.p (ldw ag_dom_tree (i := 1) rfl rfl) ?_
  refine Ol.p (ldv one_int (i := 0) rfl) ?_
  refine Ol.s (cl en_dom_tree_reached (fun M w' hh => dom_reached_ct (nU := ul.length) (cU := cU) (cP := cP) (AU := AU) (hP.now hh) hpn hb)) ?_
  refine Ol.p noti ?_
  refine Ol.nil ?_
  refine Cd.cond rfl (fun h1 => ?_) (fun h1 => ?_)   -- $7
  · have e : upsC ul pl N b = [] := by
      unfold upsC
      have : inP pl b = false := by simpa using h1
      rw [this]; rfl
    exact Cd.ret (hret (D := [_, _]) (.inl rfl) (.inl (by rw [e]; simpa [ysC] using h0)))
  have hin : inP pl b = true := by simpa using h1
  have h := h' hin
  obtain ⟨hbR, hb0⟩ := h.inn b hin
  obtain ⟨ch, hch⟩ : ∃ ch, ch = upsC ul pl N b := ⟨_, rfl⟩
  have hch2 : ch = chF (asU ul) N b.toNat := by rw [hch]; unfold upsC; rw [hin]; rfl
  rw [← hch] at hY ⊢
  have hret : ∀ {e : Exit} {σ : Env} {Lj D : List Res}, (e = .ret ∨ e = .normal) → (J (ysC ch).length Lj ∨ ∃ k, Jx k Lj) → Out ⟨Try.prog, 20, none, w0, B, M⟩ Try.f37 (fun _ L => ∃ Own' Lj, L = Own' ++ Lj ∧ (J (ysC ch).length Lj ∨ ∃ k, Jx k Lj)) e σ (D ++ Lj) := fun {e σ Lj D} he h => by
    rw [hch] at h ⊢
    exact hret he h
  refine Cd.skip ?_
  refine Cd.block ?_   -- 0
  refine Cd.loop (fun m σ L => ∃ (i : Nat) (x : Int) (Lj : List Res), (0 ≤ x → m = G.pl x.toNat + 1 ∧ G.R x.toNat ∧ ∃ n', G.pl x.toNat < n' ∧ ch.drop i = chF (asU ul) n' x.toNat) ∧ (x < 0 → i = ch.length) ∧ (-9223372036854775808 ≤ x ∧ x ≤ 9223372036854775807) ∧ Has σ [(0, .func (.yield y) #[] #[]), (1, .pointer (some ⟨gT, 0, none⟩)), (2, .pointer (some ⟨gB, 0, none⟩))] ∧
      L = blk gB (.cells #[.int .i64 x] 3) :: blk gT (.cells #[.slice AU ul.length cU, .slice AP pl.length cP] 57) :: Lj ∧ J i Lj) (n := G.pl b.toNat + 1) ⟨0, b, L0, fun _ => ⟨rfl, hbR, N, (h.len _ hbR).2.2, by rw [hch2]; rfl⟩, fun hn => absurd hb0 (by omega), hb, ⟨rfl, rfl, rfl, trivial⟩, rfl, h0⟩ ?_
  rintro m σ L ⟨i, x, Lj, hx1, hx2, hxr, hs, rfl, hJ⟩
  refine Cd.has hs ?_
  refine Cd.seq ?_
  refine Cd.seq ?_
  cases h2 : decide (0 ≤ x) with
  | false =>
    have hx0 : x < 0 := by simp at h2; exact h2
    refine Cd.region ?_
    refine Ol.p (ldv one_int (i := 0) rfl) ?_
    refine Ol.p gei ?_
    refine Ol.p mvb ?_
    refine Ol.gn h2 ?_
    refine Ol.gn h2 ?_
    refine Ol.gn h2 ?_
    refine Ol.p (pkFb h2) ?_
    refine Ol.nil ?_
    refine Cd.cond rfl (fun h3 => by cases h3) (fun h3 => ?_)   -- $14
    refine Cd.exit (id := 0) ?_
    refine hret (D := [_, _]) (.inr rfl) (.inl ?_)
    rw [hx2 hx0] at hJ
    simpa [ysC] using hJ
  | true =>
    have hx0 : 0 ≤ x := by simpa using h2
    obtain ⟨rfl, hxR, n', hn', hdr⟩ := hx1 hx0
    have hcast : ((x.toNat : Nat) : Int) = x := by omega
    obtain ⟨q, rfl⟩ : ∃ q, n' = q + 1 := ⟨n' - 1, by omega⟩
    have hget : ch[i]? = some x.toNat := by
      have : (ch.drop i)[0]? = some x.toNat := by rw [hdr]; rfl
      simpa using this
    have hil := (List.getElem?_eq_some_iff.1 hget).1
    have hyv : (ysC ch)[i]? = some [.int .i64 x] := by
      unfold ysC
      rw [List.getElem?_map, hget]
      simp [hcast]
    have hl := h.len _ hxR
    have hux := ints_get' (asU_get (ul := ul) (b := x.toNat) hl.1)
    have hdr2 : ch.drop (i + 1) = if asU ul x.toNat < 0 then [] else chF (asU ul) q (asU ul x.toNat).toNat := by
      have : ch.drop (i + 1) = (ch.drop i).drop 1 := by rw [List.drop_drop]
      rw [this, hdr]
      rfl
    refine Cd.region ?_
    refine Ol.p (ldv one_int (i := 0) rfl) ?_
    refine Ol.p gei ?_
    refine Ol.p mvb ?_
    refine Ol.gp h2 mvf ?_
    refine Ol.gp h2 (ldv one_int (i := 0) rfl) ?_
    refine Ol.gx h2 (sp_yield (Own := [blk gB (.cells #[.int .i64 x] 3), blk gT (.cells #[.slice AU ul.length cU, .slice AP pl.length cP] 57)]) hY hyv hJ) ?_
    rintro _ _ ⟨bb, Lj', rfl, rfl, ht', hf'⟩
    refine Ol.p (pkTb h2) ?_
    refine Ol.nil ?_
    refine Cd.cond rfl (fun h3 => ?_) (fun h3 => ?_)   -- $14
    · have hJ' := ht' h3
      refine Cd.skip ?_
      refine Cd.seq ?_
      refine Cd.block ?_   -- 1
      refine Cd.skip ?_
      refine Cd.region ?_
      refine Ol.p (fdl fd_dom_tree_0) ?_
      refine Ol.p (ld (v := .slice AU ul.length cU) one_L_int (Rd.blk (i := 1) rfl rfl)) ?_
      refine Ol.p (ldv one_int (i := 0) rfl) ?_
      refine Ol.p (ixn1 (ix := x.toNat) sl_L_int (Som.slc hU (by omega)) (hy := congrArg (Value.int .i64) hcast.symm)) ?_
      refine Ol.p (ld one_int (Rd.slc hU hux)) ?_
      refine Ol.s (stv sz_int (i := 0) rfl rfl) ?_
      refine Ol.nil ?_
      have hup := h.neg x.toNat
      rcases hup with e | e
      · refine ⟨0, by omega, i + 1, _, Lj', fun h5 => by omega, fun _ => ?_, by omega, ⟨rfl, rfl, rfl, trivial⟩, rfl, hJ'⟩
        rw [if_pos (by omega)] at hdr2
        have := List.drop_eq_nil_iff.1 hdr2
        omega
      · have hr := h.tr.up _ e
        rw [if_neg (by omega)] at hdr2
        have hlR := h.len _ hr.2.1
        have hul : (asU ul x.toNat).toNat < 2 ^ 50 := by have := h.pln; omega
        refine ⟨G.pl (asU ul x.toNat).toNat + 1, by have := hr.2.2.1; omega, i + 1, _, Lj', fun _ => ⟨rfl, hr.2.1, q, by have := hr.2.2.1; omega, hdr2⟩, fun h5 => by omega, by omega, ⟨rfl, rfl, rfl, trivial⟩, rfl, hJ'⟩
    refine Cd.exit (id := 0) ?_
    exact hret (D := [_, _]) (.inr rfl) (.inr ⟨_, hf' h3⟩)
theorem dom_over_ct {w : World} {AU AP : Option Addr} {cU cP N : Nat} {ul pl : List Int} {G : Gra} {a b : Int} (hU : Reads w w.heap.size 1 AU ul.length (ints ul)) (hP : Reads w w.heap.size 1 AP pl.length (ints pl)) (hpn : pl.length < 2 ^ 50) (h : inP pl b = true → Up ul pl N G) (hb : -9223372036854775808 ≤ b ∧ b ≤ 9223372036854775807) :
    Ct Try.prog 21 #[treeV AU AP ul.length pl.length cU cP, .int .i64 a, .int .i64 b] w (Is (.bool ((upsC ul pl N b).any fun d => decide ((d : Int) = a)))) := by
  refine Ct.mk Try.func21 rfl rfl ?_
  refine Cd.seq ?_
  refine Cd.region ?_
  refine Ol.x bxg ?_
  rintro _ _ ⟨g3, rfl, rfl⟩
  refine Ol.x bxi ?_
  rintro _ _ ⟨g4, rfl, rfl⟩
  refine Ol.x (alc zr_bool) ?_
  rintro _ _ ⟨g6, rfl, rfl⟩
  refine Ol.nil ?_
  refine Cd.seq ?_
  refine Cd.seq ?_
  refine Cd.region ?_
  refine Ol.p (ldw ag_dom_tree (i := 2) rfl rfl) ?_
  refine Ol.p mvi ?_
  refine Ol.x (sp_call en_dom_tree_chain (fun M w' hh => dom_chain_ct (b := b))) ?_
  rintro _ _ ⟨_, rfl, gT, gB, rfl, rfl⟩
  refine Ol.nil ?_
  obtain ⟨ch, hch⟩ : ∃ ch, ch = upsC ul pl N b := ⟨_, rfl⟩
  rw [← hch]
  refine Cd.block ?_   -- 0
  refine Cd.rf (Own := [blk gB (.cells #[.int .i64 b] 3), blk gT (.cells #[.slice AU ul.length cU, .slice AP pl.length cP] 57)]) (L0 := [blk g6 (.cells #[.bool false] 4), blk g4 (.cells #[.int .i64 a] 3), blk g3 (.cells #[.slice AU ul.length cU, .slice AP pl.length cP] 57)])
    (fun k L => L = [blk g6 (.cells #[.bool false] 4), blk g4 (.cells #[.int .i64 a] 3), blk g3 (.cells #[.slice AU ul.length cU, .slice AP pl.length cP] 57)] ∧ ∀ i d, i < k → ch[i]? = some d → decide ((d : Int) = a) = false)
    (fun _ c L => c = .ret ∧ L = [blk g6 (.cells #[.bool true] 4), blk g4 (.cells #[.int .i64 a] 3), blk g3 (.cells #[.slice AU ul.length cU, .slice AP pl.length cP] 57)] ∧ (ch.any fun d => decide ((d : Int) = a)) = true) (fun _ h => by cases h) en_dom_tree_chain_1 (by rw [hch]; exact dom_chain_1_it hU hP hpn h hb) (.refl _) ⟨rfl, fun i d hi => by omega⟩ (ysC_one ch) rfl ?_ ?_ ?_
  · rintro l H k vs Lj hk ⟨rfl, hno⟩
    obtain ⟨d, hd, rfl, hlt⟩ := ysC_get hk
    refine Cd.region ?_
    refine Ol.p asi ?_
    refine Ol.nil ?_
    intro H' r hr
    refine Cd.block ?_   -- 1
    refine Cd.seq ?_
    refine Cd.region ?_
    refine Ol.p mvi ?_
    refine Ol.p (ldv one_int (i := 1) rfl) ?_
    refine Ol.p eqi ?_
    refine Ol.nil ?_
    refine Cd.cond rfl (fun h2 => ?_) (fun h2 => ?_)   -- $14
    · refine Cd.seq ?_
      refine Cd.region ?_
      refine Ol.s (stv sz_bool (i := 0) rfl rfl) ?_
      refine Ol.nil ?_
      refine Cd.ret ⟨rfl, rfl, ?_⟩
      rw [List.any_eq_true]
      exact ⟨d, List.mem_of_getElem? hd, h2⟩
    refine Cd.skip ⟨rfl, fun i d' hi hd' => ?_⟩
    by_cases e : i = k
    · subst e
      rw [hd] at hd'; cases hd'
      exact h2
    · exact hno i d' (by omega) hd'
  · rintro L' ⟨rfl, hno⟩
    have hf : (ch.any fun d => decide ((d : Int) = a)) = false := by
      rw [List.any_eq_false]
      intro d hd
      obtain ⟨i, hi, rfl⟩ := List.getElem_of_mem hd
      have := hno i _ (by simpa [ysC] using hi) (List.getElem?_eq_getElem hi)
      rw [this]; simp
    refine Cd.seq ?_
    refine Cd.region ?_
    refine Ol.s (stv sz_bool (i := 0) rfl rfl) ?_
    refine Ol.nil ?_
    exact Cd.ret ⟨.bool _, retv rfl one_bool rfl (i := 0) rfl rfl, [], .nil, by rw [hf], rfl⟩
  · rintro k c L' ⟨rfl, rfl, ht⟩
    exact Cd.ret ⟨.bool _, retv rfl one_bool rfl (i := 0) rfl rfl, [], .nil, by rw [ht], rfl⟩
/-- A tree that was made can be gone up. -/
theorem Up.of {ts : List Tm} (hc : closed ts = true) (hd : DomU ts (domL ts)) : Up (domL ts) (plL ts) (ts.length + 1) (gra ts hc) := by
  have F := hd.2 hc
  have hl := (closed_le hc).2
  refine ⟨F.tr, fun x hx => ?_, fun b hb => ?_, by rw [plL_len]; omega, fun x => ?_⟩
  · have h1 := order_lt hc hx
    have h2 : (orderF ts).idxOf x < (orderF ts).length := List.idxOf_lt_length_of_mem hx
    have h3 := order_len_le hc
    exact ⟨by rw [hd.1]; exact h1, by rw [plL_len]; exact h1, by show (orderF ts).idxOf x < _; omega⟩
  · obtain ⟨x, rfl, hx⟩ := (inP_iff hc).1 hb
    exact ⟨hx, by omega⟩
  · by_cases hx : x ∈ orderF ts
    · rcases F.all x hx with e | e
      · left; rw [e]; exact F.tr.z
      · exact .inr e
    · exact .inl (F.non x hx)
/-- A tree without blocks. -/
def G0 : Gra := ⟨fun x => x = 0, fun _ _ => False, fun _ => 0, fun _ => 0, rfl, rfl, fun a b ha hb _ => ha.trans hb.symm, fun c h h0 => absurd h h0, fun _ _ _ h => h.elim⟩
theorem overF_ups {ts : List Tm} {a b : Int} (hc : closed ts = true) : overF ts a b = (upsC (domL ts) (plL ts) (ts.length + 1) b).any fun d => decide ((d : Int) = a) := by
  unfold overF chainL upsC
  rw [hc, Bool.true_and]
theorem dom_Of_ct {w : World} {f : RFun} (hf : FunAt w w.heap.size f) (hfit : Fit f) : Ct Try.prog 15 #[f.val] w (fun v R => (closed f.terms = false ∧ v = .slice none 0 0 ∧ R = []) ∨ (closed f.terms = true ∧ DomU f.terms (domL f.terms) ∧ ∃ g, v = .slice (some ⟨g, 0, none⟩) f.terms.length f.terms.length ∧ R = [blk g (.cells (ints (domL f.terms)).toArray 3)])) := by
  refine Ct.mk Try.func15 rfl rfl ?_
  refine Cd.seq ?_
  refine Cd.region ?_
  refine Ol.x bxg ?_
  rintro _ _ ⟨g1, rfl, rfl⟩
  refine Ol.p ass ?_
  refine Ol.nil ?_
  refine Cd.seq ?_
  refine Cd.region ?_
  refine Ol.p (ldw ag_api_Func (i := 0) rfl rfl) ?_
  refine Ol.x (sp_call en_dom_made (fun M w' hh => dom_made_ct (hf.now hh) hfit)) ?_
  rintro _ _ ⟨_, rfl, ⟨hc, rfl, rfl⟩ | ⟨hc, hd, gU, gP, rfl, rfl⟩⟩
  · skip
    refine Ol.p (fdv fv_dom_tree_0 one_L_int rfl) ?_
    refine Ol.p ass ?_
    refine Ol.nil ?_
    exact Cd.ret ⟨.slice none 0 0, ret1 rfl rfl, [], .nil, .inl ⟨hc, rfl, rfl⟩⟩
  · skip
    refine Ol.p (fdv fv_dom_tree_0 one_L_int rfl) ?_
    refine Ol.p ass ?_
    refine Ol.nil ?_
    exact Cd.ret ⟨.slice _ _ _, ret1 rfl rfl, _, .sub (.cons _ (.cons_cons _ (List.nil_sublist _))), .inr ⟨hc, hd, gU, rfl, rfl⟩⟩
theorem dom_Over_ct {w : World} {f : RFun} {a b : Int} (hf : FunAt w w.heap.size f) (hfit : Fit f) (hb : -9223372036854775808 ≤ b ∧ b ≤ 9223372036854775807) : Ct Try.prog 9 #[f.val, .int .i64 a, .int .i64 b] w (Is (.bool (overF f.terms a b))) := by
  refine Ct.mk Try.func9 rfl rfl ?_
  refine Cd.seq ?_
  refine Cd.region ?_
  refine Ol.x bxg ?_
  rintro _ _ ⟨g3, rfl, rfl⟩
  refine Ol.p asb ?_
  refine Ol.nil ?_
  refine Cd.seq ?_
  refine Cd.region ?_
  refine Ol.p (ldw ag_api_Func (i := 0) rfl rfl) ?_
  refine Ol.x (sp_call en_dom_made (fun M w' hh => dom_made_ct (hf.now hh) hfit)) ?_
  rintro _ _ ⟨_, rfl, ⟨hc, rfl, rfl⟩ | ⟨hc, hd, gU, gP, rfl, rfl⟩⟩
  · have hno : inP [] b = false := by
      unfold inP
      by_cases e : 0 ≤ b <;> simp [e]
    refine Ol.p mvi ?_
    refine Ol.p mvi ?_
    refine Ol.s (cl en_dom_tree_over (fun M w' hh => dom_over_ct (ul := []) (pl := []) (a := a) (N := 1) (G := G0) ⟨rfl, fun h => by simp at h⟩ ⟨rfl, fun h => by simp at h⟩ (by decide) (fun h => by rw [hno] at h; cases h) hb)) ?_
    refine Ol.p asb ?_
    refine Ol.nil ?_
    refine Cd.ret ⟨.bool _, ret1 rfl rfl, [], .nil, ?_, rfl⟩
    unfold upsC overF chainL
    rw [hno, hc]; rfl
  · skip
    refine Ol.p mvi ?_
    refine Ol.p mvi ?_
    refine Ol.s (cl en_dom_tree_over (fun M w' hh => by have := dom_over_ct (w := w') (ul := domL f.terms) (pl := plL f.terms) (AU := some ⟨gU, 0, none⟩) (AP := some ⟨gP, 0, none⟩) (cU := f.terms.length) (cP := f.terms.length) (a := a) (Reads.blk hh (i := 1) rfl (by simp [ints]) (fun j u hu => by simpa using hu)) (Reads.blk hh (i := 0) rfl (by simp [ints]) (fun j u hu => by simpa using hu)) (by rw [plL_len]; have := (closed_le hc).2; omega) (fun _ => Up.of hc hd) hb; rw [hd.1, plL_len] at this; exact this)) ?_
    refine Ol.p asb ?_
    refine Ol.nil ?_
    exact Cd.ret ⟨.bool _, ret1 rfl rfl, [], .nil, by rw [overF_ups hc], rfl⟩
/-- The last block over two. -/
noncomputable def bothF (ts : List Tm) (a b : Int) : Int := bif closed ts && (inP (plL ts) a && inP (plL ts) b) then ((Classical.epsilon fun m : Nat => Meet (asU (domL ts)) a.toNat b.toNat m : Nat) : Int) else -1
theorem Meet.eps {G : Gra} {U : Nat → Int} {a b m : Nat} (ht : Tr G U) (ha : Pr U a) (h : Meet U a b m) : (Classical.epsilon fun m : Nat => Meet U a b m) = m := (Classical.epsilon_spec (p := fun m : Nat => Meet U a b m) ⟨m, h⟩).eq ht ha h
set_option maxHeartbeats 1000000 in
theorem dom_Both_ct {w : World} {f : RFun} {a b : Int} (hf : FunAt w w.heap.size f) (hfit : Fit f) (ha : -9223372036854775808 ≤ a ∧ a ≤ 9223372036854775807) (hb : -9223372036854775808 ≤ b ∧ b ≤ 9223372036854775807) : Ct Try.prog 11 #[f.val, .int .i64 a, .int .i64 b] w (Is (.int .i64 (bothF f.terms a b))) := by
  refine Ct.mk Try.func11 rfl rfl ?_
  refine Cd.seq ?_
  refine Cd.region ?_
  refine Ol.x bxg ?_
  rintro _ _ ⟨g3, rfl, rfl⟩
  refine Ol.p asi ?_
  refine Ol.nil ?_
  refine Cd.seq ?_
  refine Cd.region ?_
  refine Ol.p (ldw ag_api_Func (i := 0) rfl rfl) ?_
  refine Ol.x (sp_call en_dom_made (fun M w' hh => dom_made_ct (hf.now hh) hfit)) ?_
  rintro _ _ ⟨_, rfl, ⟨hc, rfl, rfl⟩ | ⟨hc, hd, gU, gP, rfl, rfl⟩⟩
  · have hno : inP [] a = false := by
      unfold inP
      by_cases e : 0 ≤ a <;> simp [e]
    have hg : (!inP [] a) = true := by rw [hno]; rfl
    refine Ol.x (alc zr_dom_tree) ?_
    rintro _ _ ⟨g7, rfl, rfl⟩
    refine Ol.s (stw (vs := #[.slice none 0 0, .slice none 0 0]) sz_dom_tree rfl (by intro u hu; simp at hu; subst hu; rfl) (i := 0) rfl rfl) ?_
    refine Ol.nil ?_
    refine Cd.seq ?_
    refine Cd.seq ?_
    refine Cd.region ?_
    refine Ol.p (ldw ag_dom_tree (i := 0) rfl rfl) ?_
    refine Ol.p mvi ?_
    refine Ol.s (cl en_dom_tree_reached (fun M w' hh => dom_reached_ct (pl := []) (nU := 0) (cU := 0) (cP := 0) (AU := none) (AP := none) ⟨rfl, fun h => by simp at h⟩ (by decide) ha)) ?_
    refine Ol.p noti ?_
    refine Ol.p mvb ?_
    refine Ol.gn hg ?_
    refine Ol.gn hg ?_
    refine Ol.gn hg ?_
    refine Ol.gn hg ?_
    refine Ol.p (pkTb hg) ?_
    refine Ol.nil ?_
    refine Cd.cond rfl (fun h => ?_) (fun h => by cases h)   -- $19
    refine Cd.seq ?_
    refine Cd.region ?_
    refine Ol.p asi ?_
    refine Ol.nil ?_
    refine Cd.ret ⟨.int .i64 _, ret1 rfl rfl, [], .nil, ?_, rfl⟩
    unfold bothF
    rw [hc]; rfl
  · skip
    refine Ol.x (alc zr_dom_tree) ?_
    rintro _ _ ⟨g7, rfl, rfl⟩
    refine Ol.s (stw (vs := #[.slice (some ⟨gU, 0, none⟩) f.terms.length f.terms.length, .slice (some ⟨gP, 0, none⟩) f.terms.length f.terms.length]) sz_dom_tree rfl (by intro u hu; simp at hu; rcases hu with rfl | rfl <;> rfl) (i := 0) rfl rfl) ?_
    refine Ol.nil ?_
    have hl := (closed_le hc).2
    have U := Up.of hc hd
    have F := hd.2 hc
    have hreach : ∀ (x : Int), (-9223372036854775808 ≤ x ∧ x ≤ 9223372036854775807) → ∀ (M : List Res) (w' : World), Hp w w.heap.size (M ++ [blk g7 (.cells #[.slice (some ⟨gU, 0, none⟩) f.terms.length f.terms.length, .slice (some ⟨gP, 0, none⟩) f.terms.length f.terms.length] 57), blk gP (.cells (ints (plL f.terms)).toArray 3), blk gU (.cells (ints (domL f.terms)).toArray 3), blk g3 (.cells f.cells.toArray 25)]) w' →
        Ct Try.prog 22 #[treeV (some ⟨gU, 0, none⟩) (some ⟨gP, 0, none⟩) f.terms.length f.terms.length f.terms.length f.terms.length, .int .i64 x] w' (Is (.bool (inP (plL f.terms) x))) := fun x hx M w' hh => by
      have := dom_reached_ct (w := w') (pl := plL f.terms) (nU := f.terms.length) (cU := f.terms.length) (cP := f.terms.length) (AU := some ⟨gU, 0, none⟩) (AP := some ⟨gP, 0, none⟩) (Reads.blk hh (i := 1) rfl (by simp [ints]) (fun j u hu => by simpa using hu)) (by rw [plL_len]; omega) hx
      rw [plL_len] at this; exact this
    refine Cd.seq ?_
    refine Cd.mid (fun σ' L' => Has σ' [(1, .int .i64 a), (2, .int .i64 b), (3, .pointer (some ⟨g3, 0, none⟩)), (7, .pointer (some ⟨g7, 0, none⟩)), (19, .bool (!(inP (plL f.terms) a && inP (plL f.terms) b)))] ∧ [blk g7 (.cells #[.slice (some ⟨gU, 0, none⟩) f.terms.length f.terms.length, .slice (some ⟨gP, 0, none⟩) f.terms.length f.terms.length] 57), blk gP (.cells (ints (plL f.terms)).toArray 3), blk gU (.cells (ints (domL f.terms)).toArray 3), blk g3 (.cells f.cells.toArray 25)] = L') ?_ ?_
    · cases hA : inP (plL f.terms) a with
      | false =>
        have hg : (!inP (plL f.terms) a) = true := by rw [hA]; rfl
        refine Cd.region ?_
        refine Ol.p (ldw ag_dom_tree (i := 0) rfl rfl) ?_
        refine Ol.p mvi ?_
        refine Ol.s (cl en_dom_tree_reached (hreach a ha)) ?_
        refine Ol.p noti ?_
        refine Ol.p mvb ?_
        refine Ol.gn hg ?_
        refine Ol.gn hg ?_
        refine Ol.gn hg ?_
        refine Ol.gn hg ?_
        refine Ol.p (pkTb hg) ?_
        refine Ol.nil ?_
        exact ⟨⟨rfl, rfl, rfl, rfl, rfl, trivial⟩, rfl⟩
      | true =>
        have hg : (!inP (plL f.terms) a) = false := by rw [hA]; rfl
        refine Cd.region ?_
        refine Ol.p (ldw ag_dom_tree (i := 0) rfl rfl) ?_
        refine Ol.p mvi ?_
        refine Ol.s (cl en_dom_tree_reached (hreach a ha)) ?_
        refine Ol.p noti ?_
        refine Ol.p mvb ?_
        refine Ol.gp hg (ldw ag_dom_tree (i := 0) rfl rfl) ?_
        refine Ol.gp hg mvi ?_
        refine Ol.gs hg (cl en_dom_tree_reached (hreach b hb)) ?_
        refine Ol.gp hg noti ?_
        refine Ol.p (pkFb hg) ?_
        refine Ol.nil ?_
        exact ⟨⟨rfl, rfl, rfl, rfl, rfl, trivial⟩, rfl⟩
    rintro σ' _ ⟨hs', rfl⟩
    refine Cd.has hs' ?_
    refine Cd.cond rfl (fun h => ?_) (fun h => ?_)   -- $19
    · refine Cd.seq ?_
      refine Cd.region ?_
      refine Ol.p asi ?_
      refine Ol.nil ?_
      refine Cd.ret ⟨.int .i64 _, ret1 rfl rfl, [], .nil, ?_, rfl⟩
      unfold bothF
      have : (inP (plL f.terms) a && inP (plL f.terms) b) = false := by rw [← Bool.not_eq_true']; exact h
      rw [hc, this]; rfl
    have hin : (inP (plL f.terms) a && inP (plL f.terms) b) = true := by simpa using h
    obtain ⟨x, hx, hxo⟩ := (inP_iff hc).1 (Bool.and_eq_true_iff.1 hin).1
    obtain ⟨y, hy, hyo⟩ := (inP_iff hc).1 (Bool.and_eq_true_iff.1 hin).2
    subst hx
    subst hy
    refine Cd.skip ?_
    refine Cd.seq ?_
    refine Cd.region ?_
    refine Ol.p (ldw ag_dom_tree (i := 0) rfl rfl) ?_
    refine Ol.p mvi ?_
    refine Ol.p mvi ?_
    refine Ol.x (sp_call en_dom_tree_meet (fun M w' hh => by have := dom_meet_ct (w := w') (AU := some ⟨gU, 0, none⟩) (AP := some ⟨gP, 0, none⟩) (cU := f.terms.length) (cP := f.terms.length) (ul := domL f.terms) (pl := plL f.terms) (G := gra f.terms hc) (Reads.blk hh (i := 2) rfl (by simp [ints]) (fun j u hu => by simpa using hu)) (Reads.blk hh (i := 1) rfl (by simp [ints]) (fun j u hu => by simpa using hu)) F.tr (fun z hz => by rw [plL_get (order_lt hc hz), if_pos (show z ∈ orderF f.terms from hz)]; rfl) (fun z hz => ⟨(U.len z hz).1, (U.len z hz).2.1⟩) (F.all x hxo) (F.all y hyo); rw [hd.1, plL_len] at this; exact this)) ?_
    rintro _ _ ⟨_, rfl, m, rfl, hm, rfl⟩
    refine Ol.p asi ?_
    refine Ol.nil ?_
    refine Cd.ret ⟨.int .i64 _, ret1 rfl rfl, [], .nil, ?_, rfl⟩
    unfold bothF
    rw [hc, hin, Bool.true_and, cond_true, Int.toNat_natCast, Int.toNat_natCast, hm.eps F.tr (F.all x hxo)]
end
end Go.Proofs.Ytbcnejobnmljlaa
