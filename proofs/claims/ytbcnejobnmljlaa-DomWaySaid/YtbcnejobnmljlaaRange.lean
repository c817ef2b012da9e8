/- A range over a function: contracts of iterators, the yield in an iterator, the loop over one; within a round of another loop or not. -/
import Derived.Test.YtbcnejobnmljlaaDraw
namespace Go.Proofs.Ytbcnejobnmljlaa
set_option linter.unusedVariables false
open Go Go.RowKit

/-- What a call of yield does for loop l: the k-th arguments; J: what is owned while it goes on; Jx: where it has been left. -/
def Yl (P : Program) (w0 : World) (B l : Nat) (ys : List (List Value)) (J Jx : Nat → List Res → Prop) : Prop :=
  ∀ (k : Nat) (vs : List Value) (M : List Res) (w : World) (Lj : List Res), ys[k]? = some vs → J k Lj → Hp w0 B (M ++ Lj) w →
    ∃ fn tmps assign body, (Instr.yield l vs.toArray).run P w = .ok (.round l fn tmps assign body) w ∧ RoundIn Fence.wide 0 P l fn tmps assign body w fun e w' => ∃ b Lj', e = .returned (.bool b) ∧ Hp w0 B (M ++ Lj') w' ∧ (b = true → J (k + 1) Lj') ∧ (b = false → Jx (k + 1) Lj')
/-- The contract of an iterator: it yields ys, one by one, until yield says no. -/
def It (P : Program) (w0 : World) (B gf : Nat) (lb : Array Value) (Own : List Res) (ys : List (List Value)) : Prop :=
  ∀ (l : Nat) (J Jx : Nat → List Res → Prop) (L0 : List Res), Yl P w0 B l ys J Jx → J 0 L0 →
    Cm P gf (#[.func (.yield l) #[] #[]] ++ lb) w0 B (Own ++ L0) fun _ L => ∃ Own' Lj, L = Own' ++ Lj ∧ (J ys.length Lj ∨ ∃ k, Jx k Lj)
/-- What yield comes to, in an iterator. -/
def Yd (k : Nat) (J Jx : Nat → List Res → Prop) (Own : List Res) : Value → List Res → Prop := fun v L' => ∃ b Lj', v = .bool b ∧ L' = Own ++ Lj' ∧ (b = true → J (k + 1) Lj') ∧ (b = false → Jx (k + 1) Lj')
theorem sp_yield {P : Program} {w0 : World} {B : Nat} {σ : Env} {d : Option Nat} {ty : TypeId} {pos : String} {af : Array Edge} {gd : Option (Nat × Bool)} {x : Operand} {xs : List Operand} {ts : Array TypeId} {l k : Nat} {ys : List (List Value)} {vs : List Value} {J Jx : Nat → List Res → Prop} {Own Lj : List Res}
    (hy : Yl P w0 B l ys J Jx) (hk : ys[k]? = some vs) (hJ : J k Lj) (hx : ev σ x = .func (.yield l) #[] #[] := by exact rfl) (ha : xs.map (ev σ) = vs := by exact rfl) :
    Sp P w0 B ⟨d, .call { callee := .value x, args := xs.toArray, argTypes := ts }, ty, pos, af, gd⟩ σ (Own ++ Lj) (Yd k J Jx Own) := fun M w hh => by
  obtain ⟨fn, tmps, assign, body, hr, hR⟩ := hy k vs (M ++ Own) w Lj hk hJ (by simpa using hh)
  refine .inr (.inr (.inr ⟨l, fn, tmps, assign, body, w, ?_, ?_⟩))
  · simp [execOp, resolve, Deferred.ofValue, hx, invoke, ha, hr]
  · refine hR.mono ?_
    rintro e w' ⟨b, Lj', rfl, hh', h1, h2⟩
    exact ⟨.bool b, rfl, Own ++ Lj', by simpa using hh', b, Lj', rfl, rfl, h1, h2⟩

/-! ### The loop -/
theorem Hp.set0 {w0 w w' : World} {B : Nat} {M L : List Res} {r r' : Res} (h : Hp w0 B (M ++ (r :: L)) w) (st : Stp r.S w w') (hp : r'.p w') (hf : ∀ k, r'.S k → r.S k) : Hp w0 B (M ++ (r' :: L)) w' :=
  Hp.set (i := 0) h rfl st hp fun k hk => .inl (hf k hk)
theorem Hp.new0 {w0 w : World} {B : Nat} {M L : List Res} (h : Hp w0 B (M ++ L) w) (o : Obj) : Hp w0 B (M ++ (blk w.heap.size o :: L)) (w.alloc o) :=
  h.add (T := [blk w.heap.size o]) (Stp.alloc w o) (by intro r hr; simp at hr; subst hr; exact World.alloc_heap_new w o) (by intro r hr k hk; simp at hr; subst hr; cases hk; simp) (by simp)
/-- The slots of a loop's variables get what is yielded. -/
def params : List Nat → List Value → Env → Env
  | t :: ts, v :: vs, σ => params ts vs (upd σ t v)
  | _, _, σ => σ
theorem agree_params {ds : List Deferred} : ∀ (ts : List Nat) (vs : List Value) (a : Act) (σ : Env), Agree a σ → (∀ t ∈ ts, t < a.tmps.size) →
    Agree { tmps := ((ts.zip vs).foldl (fun tmps (t, v) => tmps.setIfInBounds t v) a.tmps), defers := ds } (params ts vs σ)
  | [], _, a, σ, h, _ => fun t => by simpa [params] using h t
  | _ :: _, [], a, σ, h, _ => fun t => by simpa [params] using h t
  | t :: ts, v :: vs, a, σ, h, ht => by
    have h1 : Agree (a.put (some t) v) (updO σ (some t) v) := h.put v (fun t' e => by cases e; exact ht t (by simp))
    have h2 := agree_params (ds := ds) ts vs (a.put (some t) v) (upd σ t v) h1 (fun t' ht' => by rw [put_size]; exact ht t' (by simp [ht']))
    simpa [params, Act.put] using h2
theorem size_params : ∀ (l : List (Nat × Value)) (ts : Array Value), (l.foldl (fun tmps (t, v) => tmps.setIfInBounds t v) ts).size = ts.size
  | [], _ => rfl
  | (t, v) :: l, ts => by
    rw [List.foldl_cons, size_params l]
    simp
def recOf (fn : FuncId) (a : Act) (ps : Array Tmp) (assign body : Code) (dd : Nat) : Loop := { state := .ready, pending := none, fn, tmps := a.tmps, params := ps, assign, body, defers := dd }
theorem enter_any {C : Ctx} {L : List Res} {a : Act} {w : World} (hs : St C L a w) (hin : ∀ l0, C.r = some l0 → ∃ r, blk l0 (.loop r) ∈ C.H) (fn : FuncId) (ps : Array Tmp) (assign body : Code) :
    ∃ l mark W1 dd, (Instr.enterLoop fn a.tmps ps assign body C.r).run C.P w = .ok (l, mark) W1 ∧ Hp C.w0 C.B (hid C { a with defers := mark ++ a.defers } ++ (blk l (.loop (recOf fn a ps assign body dd)) :: L)) W1 := by
  cases hr : C.r with
  | none =>
    refine ⟨w.heap.size + 1, _, _, w.heap.size, run_enterLoop_outer fn a.tmps ps assign body, ?_⟩
    have h1 := Hp.new0 (M := []) (L := hid C a ++ L) (by simpa using hs.heap) (.deferred (some []))
    have h2 := Hp.new0 (M := blk w.heap.size (.deferred (some [])) :: hid C a) (L := L) (by simpa using h1) (.loop (recOf fn a ps assign body w.heap.size))
    simpa [hid, markRes, recOf] using h2
  | some l0 =>
    obtain ⟨r0, hm⟩ := hin l0 hr
    have h0 : w.heap[l0]? = some (.loop r0) := hs.heap.has (blk l0 (.loop r0)) (by simp [hid, hm])
    refine ⟨w.heap.size, _, _, r0.defers, run_enterLoop_inner h0 fn a.tmps ps assign body, ?_⟩
    have h2 := Hp.new0 (M := hid C a) (L := L) hs.heap (.loop (recOf fn a ps assign body r0.defers))
    simpa [recOf] using h2
/-- How a round ends. -/
def RQ (J : Nat → List Res → Prop) (Jx : Nat → Code → List Res → Prop) (k : Nat) : Exit → Env → List Res → Prop
  | .normal, _, L => J (k + 1) L
  | .ret, _, L => Jx (k + 1) .ret L
  | .exit id, _, L => Jx (k + 1) (.exit id) L
  | .goto t, _, L => Jx (k + 1) (.goto t) L
  | _, _, _ => False
def rc (C : Ctx) (l : Nat) (H : List Res) : Ctx := ⟨C.P, C.N, some l, C.w0, C.B, H⟩
theorem Cd.rf {C : Ctx} {g : Operand} {ps : List Nat} {assign body : Code} {Q : Exit → Env → List Res → Prop} {σ : Env} {L Own L0 : List Res} {gf : Nat} {lb : Array Value} {ys : List (List Value)}
    (J : Nat → List Res → Prop) (Jx : Nat → Code → List Res → Prop) (hin : ∀ l0, C.r = some l0 → ∃ r, blk l0 (.loop r) ∈ C.H) (he : Ent C.P gf) (hit : It C.P C.w0 C.B gf lb Own ys) (hp : L.Perm (Own ++ L0)) (h0 : J 0 L0)
    (hps : ∀ vs ∈ ys, vs.length = ps.length) (hNb : ps.all (fun t => Nat.blt t C.N) = true)
    (hround : ∀ (l : Nat) (H : List Res) (k : Nat) (vs : List Value) (Lj : List Res), ys[k]? = some vs → J k Lj →
      Cd (rc C l H) assign (On (fun σ' L' => ∀ H' r, blk l (.loop r) ∈ H' → Cd (rc C l H') body (RQ J Jx k) σ' L') (fun _ _ _ => False)) (params ps vs σ) Lj)
    (hdone : ∀ L', J ys.length L' → Q .normal σ L') (hstop : ∀ k c L', Jx k c L' → Cd C c Q σ L') (hg : ev σ g = .func (.func gf) #[] lb := by exact rfl) :
    Cd C (.rangeFunc g ps.toArray assign body) Q σ L := by
  have hN : ∀ t ∈ ps, t < C.N := fun t ht => Nat.le_of_ble_eq_true (List.all_eq_true.1 hNb t ht)
  intro a w ha hs
  refine wpIn_rangeFunc ?_
  intro fn hfn
  obtain ⟨l, mark, W1, dd, hent, hW1⟩ := enter_any (hs.perm hp) hin fn ps.toArray assign body
  obtain ⟨rec, hrec⟩ : ∃ rec, rec = recOf fn a ps.toArray assign body dd := ⟨_, rfl⟩
  rw [← hrec] at hW1
  have hev : a.eval g = .func (.func gf) #[] lb := by rw [ha.eval]; exact hg
  refine ⟨l, mark, W1, { target := .fn (.func gf) lb, args := #[.func (.yield l) #[] #[]] }, W1, gf, #[.func (.yield l) #[] #[]] ++ lb, W1, hent, ?_, fun _ _ => trivial, ?_, fun h => by simp [FR, Fence.wide] at h, ?_⟩
  · simp only [resolve, hev]
    simp [Deferred.ofValue, Act.eval]
  · have := he (#[.func (.yield l) #[] #[]] ++ lb) W1
    simpa [invoke] using this
  obtain ⟨a2, ha2⟩ : ∃ a2 : Act, a2 = { a with defers := mark ++ a.defers } := ⟨_, rfl⟩
  rw [← ha2] at hW1 ⊢
  have hag2 : Agree a2 σ := by subst ha2; exact fun t => ha t
  have hsz2 : a2.tmps.size = C.N := by subst ha2; exact hs.size
  have hY : Yl C.P C.w0 C.B l ys (fun k L' => ∃ Lj, L' = blk l (.loop rec) :: Lj ∧ J k Lj) (fun k L' => ∃ c Lj, L' = blk l (.loop { rec with state := .done, pending := some c }) :: Lj ∧ Jx k c Lj) := by
    rintro k vs M W _ hk ⟨Lj, rfl, hJ⟩ hh
    have hl : W.heap[l]? = some (.loop rec) := hh.has (blk l (.loop rec)) (by simp)
    have hlen := hps vs (List.mem_of_getElem? hk)
    have hy := run_yield (P := C.P) (args := vs.toArray) hl (by rw [hrec]; simp [recOf, hlen])
    refine ⟨_, _, _, _, hy, roundIn_of_wpIn trivial ?_⟩
    have e1 : rec.assign = assign := by rw [hrec]; rfl
    have e2 : rec.body = body := by rw [hrec]; rfl
    have e3 : rec.params = ps.toArray := by rw [hrec]; rfl
    have e4 : rec.tmps = a.tmps := by rw [hrec]; rfl
    have hra := hround l (M ++ [blk l (.loop rec)]) k vs Lj hk hJ
    have hag : Agree { tmps := ((rec.params.zip vs.toArray).foldl (fun tmps (t, v) => tmps.setIfInBounds t v) rec.tmps), defers := [] } (params ps vs σ) := by
      have := agree_params (ds := []) ps vs a σ ha (fun t ht => by rw [hs.size]; exact hN t ht)
      rw [e3, e4]
      simpa using this
    have hst : St (rc C l (M ++ [blk l (.loop rec)])) Lj { tmps := ((rec.params.zip vs.toArray).foldl (fun tmps (t, v) => tmps.setIfInBounds t v) rec.tmps), defers := [] } W := by
      refine ⟨?_, hh.perm (by simp [hid, rc])⟩
      have := size_params (ps.zip vs) a.tmps
      rw [hs.size] at this
      rw [e3, e4]
      show _ = C.N
      rw [← this]
      simp
    have h5 := hra _ W hag hst
    rw [← e1] at h5
    refine Go.wpIn_mono h5 ?_
    rintro e a' W' ⟨σ', L', hag', hs', hq⟩
    cases e with
    | normal =>
      simp only [On] at hq
      have hh1 : Hp C.w0 C.B ((a'.defers.map markRes ++ M) ++ (blk l (.loop rec) :: L')) W' := hs'.heap.perm (by simp [hid, rc])
      have hl1 : W'.heap[l]? = some (.loop rec) := hh1.has (blk l (.loop rec)) (by simp)
      have hlt := (Array.getElem?_eq_some_iff.1 hl1).1
      refine ⟨_, run_beginRound hl1 (by rw [hrec]; rfl), ?_⟩
      have hh2 := Hp.set0 (r' := blk l (.loop { rec with state := .busy })) hh1 (Stp.putObj W' l _) (World.putObj_heap_same hlt) (fun _ h => h)
      have hb := hq (M ++ [blk l (.loop { rec with state := .busy })]) { rec with state := .busy } (by simp) a' _ hag' ⟨hs'.size, hh2.perm (by simp [hid, rc])⟩
      rw [← e2] at hb
      refine Go.wpIn_mono hb ?_
      rintro e a3 W3 ⟨σ3, L3, hag3, hs3, hq3⟩
      have hh3 : Hp C.w0 C.B ((a3.defers.map markRes ++ M) ++ (blk l (.loop { rec with state := .busy }) :: L3)) W3 := hs3.heap.perm (by simp [hid, rc])
      have hl3 : W3.heap[l]? = some (.loop { rec with state := .busy }) := hh3.has _ (List.mem_append_right _ (List.mem_cons_self ..))
      have hlt3 := (Array.getElem?_eq_some_iff.1 hl3).1
      have fin : ∀ (jump : Option Code), Hp C.w0 C.B (M ++ (blk l (.loop { rec with state := if jump.isNone then .ready else .done, pending := jump }) :: L3)) (W3.putObj l (.loop { rec with state := if jump.isNone then .ready else .done, pending := jump })) := fun jump => by
        have := Hp.set0 (r' := blk l (.loop { rec with state := if jump.isNone then .ready else .done, pending := jump })) hh3 (Stp.putObj W3 l _) (World.putObj_heap_same hlt3) (fun _ h => h)
        exact this.sub (by simp)
      cases e with
      | normal =>
        refine ⟨_, _, run_endRound none hl3, true, _, rfl, fin none, fun _ => ⟨L3, ?_, hq3⟩, fun h => by cases h⟩
        rw [hrec]; rfl
      | ret => exact ⟨_, _, run_endRound (some .ret) hl3, false, _, rfl, fin (some .ret), fun h => by (cases h), fun _ => ⟨.ret, L3, rfl, hq3⟩⟩
      | exit id => exact ⟨_, _, run_endRound (some (.exit id)) hl3, false, _, rfl, fin (some (.exit id)), fun h => by (cases h), fun _ => ⟨.exit id, L3, rfl, hq3⟩⟩
      | goto t => exact ⟨_, _, run_endRound (some (.goto t)) hl3, false, _, rfl, fin (some (.goto t)), fun h => by (cases h), fun _ => ⟨.goto t, L3, rfl, hq3⟩⟩
      | panic ch => exact hq3.elim
      | outgrown => exact hq3.elim
    | _ => exact hq.elim
  refine CallsIn.mono (hit l _ _ (blk l (.loop rec) :: L0) hY ⟨L0, rfl, h0⟩ (hid C a2) W1 (hW1.perm ?_)) ?_
  · refine List.Perm.append_left _ ?_
    exact (List.perm_middle).symm
  rintro e W2 ⟨v, rfl, _, hh, Own', _, rfl, hcase⟩
  rcases hcase with ⟨Lj, rfl, hJ⟩ | ⟨k, c, Lj, rfl, hJ⟩
  · have hl : W2.heap[l]? = some (.loop rec) := hh.has (blk l (.loop rec)) (by simp)
    refine ⟨none, _, by have := run_endLoop (P := C.P) hl (by rw [hrec]; simp [recOf]); rw [hrec] at this; exact this, ?_⟩
    have h1 : Hp C.w0 C.B ((hid C a2 ++ Own') ++ (blk l (.loop rec) :: Lj)) W2 := by simpa using hh
    have h2 := Hp.set0 (r' := blk l (.loop { rec with state := .exhausted })) h1 (Stp.putObj W2 l _) (World.putObj_heap_same (Array.getElem?_eq_some_iff.1 hl).1) (fun _ h => h)
    refine ⟨σ, Lj, hag2, ⟨hsz2, ?_⟩, hdone Lj hJ⟩
    rw [← hrec]
    exact h2.sub (by simp)
  · have hl : W2.heap[l]? = some (.loop { rec with state := .done, pending := some c }) := hh.has (blk l (.loop { rec with state := .done, pending := some c })) (by simp)
    refine ⟨some c, _, run_endLoop (P := C.P) hl (by simp), ?_⟩
    have h1 : Hp C.w0 C.B ((hid C a2 ++ Own') ++ (blk l (.loop { rec with state := .done, pending := some c }) :: Lj)) W2 := by simpa using hh
    have h2 := Hp.set0 (r' := blk l (.loop { rec with state := .exhausted, pending := some c })) h1 (Stp.putObj W2 l _) (World.putObj_heap_same (Array.getElem?_eq_some_iff.1 hl).1) (fun _ h => h)
    exact hstop k c Lj hJ a2 _ hag2 ⟨hsz2, h2.sub (by simp)⟩
end Go.Proofs.Ytbcnejobnmljlaa
