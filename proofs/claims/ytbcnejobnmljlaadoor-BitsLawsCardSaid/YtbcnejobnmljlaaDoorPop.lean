/- How many numbers a word has: the sums of its fields. Plain Lean. -/
import Derived.Test.YtbcnejobnmljlaaDoorBits2
namespace Go.Proofs.YtbcnejobnmljlaaDoor
set_option linter.unusedVariables false

def num (b : Nat) : List Nat → Nat
  | [] => 0
  | d :: ds => d + b * num b ds
def evens : List Nat → List Nat
  | d :: _ :: ds => d :: evens ds
  | [d] => [d]
  | [] => []
def pairs : List Nat → List Nat
  | d :: e :: ds => (e + d) :: pairs ds
  | [d] => [d]
  | [] => []
def maskN (m : Nat) : Nat → Nat
  | 0 => 0
  | n + 1 => (2 ^ m - 1) + 2 ^ m * (2 ^ m * maskN m n)
theorem and_low {m R M d e : Nat} (hd : d < 2 ^ m) (he : e < 2 ^ m) : (d + 2 ^ m * (e + 2 ^ m * R)) &&& ((2 ^ m - 1) + 2 ^ m * (2 ^ m * M)) = d + 2 ^ m * (2 ^ m * (R &&& M)) := by
  have hp : 0 < 2 ^ m := Nat.pow_pos (by decide)
  apply Nat.eq_of_testBit_eq
  intro j
  rw [Nat.testBit_and, Nat.add_comm d, Nat.add_comm (2 ^ m - 1), Nat.add_comm d]
  rw [Nat.testBit_two_pow_mul_add _ hd, Nat.testBit_two_pow_mul_add _ (by omega : 2 ^ m - 1 < 2 ^ m), Nat.testBit_two_pow_mul_add _ hd]
  by_cases h : j < m
  · simp [h]
  · simp only [if_neg h]
    rw [Nat.add_comm e, Nat.testBit_two_pow_mul_add _ he]
    have e1 : (2 ^ m * M).testBit (j - m) = if j - m < m then (0 : Nat).testBit (j - m) else M.testBit (j - m - m) := by
      have := Nat.testBit_two_pow_mul_add M hp (j - m)
      simpa using this
    have e2 : (2 ^ m * (R &&& M)).testBit (j - m) = if j - m < m then (0 : Nat).testBit (j - m) else (R &&& M).testBit (j - m - m) := by
      have := Nat.testBit_two_pow_mul_add (R &&& M) hp (j - m)
      simpa using this
    rw [e1, e2]
    by_cases h2 : j - m < m
    · simp [h2]
    · simp [h2, Nat.testBit_and]
theorem num_mask {m : Nat} : ∀ (n : Nat) (ds : List Nat), ds.length = 2 * n → (∀ d ∈ ds, d < 2 ^ m) → num (2 ^ m) ds &&& maskN m n = num (2 ^ m * 2 ^ m) (evens ds)
  | 0, ds, h, _ => by
    have : ds = [] := List.eq_nil_of_length_eq_zero (by omega)
    subst this; simp [num, evens, maskN]
  | n + 1, [], h, _ => by simp at h
  | n + 1, [d], h, _ => by simp at h; omega
  | n + 1, d :: e :: ds, h, hd => by
    have ih := num_mask (m := m) n ds (by simp at h; omega) (fun x hx => hd x (by simp [hx]))
    show (d + 2 ^ m * (e + 2 ^ m * num (2 ^ m) ds)) &&& ((2 ^ m - 1) + 2 ^ m * (2 ^ m * maskN m n)) = d + 2 ^ m * 2 ^ m * num (2 ^ m * 2 ^ m) (evens ds)
    rw [and_low (hd d (by simp)) (hd e (by simp)), ih, Nat.mul_assoc]
theorem num_add {b : Nat} : ∀ (xs ys : List Nat), xs.length = ys.length → num b xs + num b ys = num b (List.zipWith (· + ·) xs ys)
  | [], [], _ => rfl
  | x :: xs, y :: ys, h => by
    have ih := num_add (b := b) xs ys (by simpa using h)
    simp only [num, List.zipWith_cons_cons, ← ih, Nat.mul_add]
    omega
theorem num_div {b d : Nat} {ds : List Nat} (hb : 0 < b) (hd : d < b) : num b (d :: ds) / b = num b ds := by
  rw [num, Nat.add_mul_div_left _ _ hb, Nat.div_eq_of_lt hd, Nat.zero_add]
theorem num_zero (b : Nat) (xs : List Nat) : num b (xs ++ [0]) = num b xs := by
  induction xs with
  | nil => simp [num]
  | cons x xs ih => simp [num, ih]
theorem evens_len : ∀ (n : Nat) (ds : List Nat), ds.length = 2 * n → (evens ds).length = n
  | 0, ds, h => by
    have : ds = [] := List.eq_nil_of_length_eq_zero (by omega)
    subst this; rfl
  | n + 1, [], h => by simp at h
  | n + 1, [d], h => by simp at h; omega
  | n + 1, d :: e :: ds, h => by simp [evens, evens_len n ds (by simp at h; omega)]
theorem pairs_len : ∀ (n : Nat) (ds : List Nat), ds.length = 2 * n → (pairs ds).length = n
  | 0, ds, h => by
    have : ds = [] := List.eq_nil_of_length_eq_zero (by omega)
    subst this; rfl
  | n + 1, [], h => by simp at h
  | n + 1, [d], h => by simp at h; omega
  | n + 1, d :: e :: ds, h => by simp [pairs, pairs_len n ds (by simp at h; omega)]
theorem pairs_sum : ∀ ds : List Nat, (pairs ds).sum = ds.sum
  | [] => rfl
  | [d] => rfl
  | d :: e :: ds => by simp [pairs, pairs_sum ds]; omega
theorem pairs_le {c : Nat} : ∀ ds : List Nat, (∀ d ∈ ds, d ≤ c) → ∀ d ∈ pairs ds, d ≤ 2 * c
  | [], _ => by simp [pairs]
  | [d], h => by intro x hx; have := h x (by simpa [pairs] using hx); omega
  | d :: e :: ds, h => by
    intro x hx
    simp only [pairs, List.mem_cons] at hx
    rcases hx with rfl | hx
    · have h1 := h d (by simp); have h2 := h e (by simp); omega
    · exact pairs_le ds (fun y hy => h y (by simp [hy])) x hx
/-- The odd places, and the even ones: their sums. -/
theorem zip_evens : ∀ (n : Nat) (d : Nat) (ds : List Nat), (d :: ds).length = 2 * n → List.zipWith (· + ·) (evens (ds ++ [0])) (evens (d :: ds)) = pairs (d :: ds)
  | 0, d, ds, h => by simp at h
  | n + 1, d, [], h => by simp at h; omega
  | n + 1, d, [e], h => by simp [evens, pairs]
  | n + 1, d, e :: f :: ds, h => by
    have ih := zip_evens n f ds (by simp at h ⊢; omega)
    cases ds with
    | nil => exact absurd h (by simp; omega)
    | cons g ds =>
      simp only [List.cons_append, evens, List.zipWith_cons_cons, pairs] at ih ⊢
      rw [ih]
theorem num_pairs {m n : Nat} {ds : List Nat} (hm : 0 < m) (hl : ds.length = 2 * n) (hn : 0 < n) (hd : ∀ d ∈ ds, d < 2 ^ m) :
    ((num (2 ^ m) ds / 2 ^ m) &&& maskN m n) + (num (2 ^ m) ds &&& maskN m n) = num (2 ^ m * 2 ^ m) (pairs ds) := by
  cases ds with
  | nil => simp at hl; omega
  | cons d ds =>
    have hp : 0 < 2 ^ m := Nat.pow_pos (by decide)
    rw [num_div hp (hd d (by simp)), ← num_zero (2 ^ m) ds, num_mask n (ds ++ [0]) (by simp at hl ⊢; omega) (fun x hx => by
      rcases List.mem_append.1 hx with hx | hx
      · exact hd x (by simp [hx])
      · simp at hx; omega), num_mask n (d :: ds) hl hd, num_add _ _ (by rw [evens_len n _ (by simp at hl ⊢; omega), evens_len n _ hl]), zip_evens n d ds hl]
theorem num_lt {b : Nat} : ∀ ds : List Nat, (∀ d ∈ ds, d < b) → num b ds < b ^ ds.length
  | [], _ => by simp [num]
  | d :: ds, h => by
    have ih := num_lt ds (fun x hx => h x (by simp [hx]))
    have hd := h d (by simp)
    rw [num, List.length_cons, Nat.pow_succ]
    have : b * num b ds + b ≤ b * b ^ ds.length := by rw [← Nat.mul_succ]; exact Nat.mul_le_mul_left _ ih
    rw [Nat.mul_comm (b ^ ds.length)]
    omega
/-- The bits of a word, as digits. -/
def bitsR : Nat → Nat → List Nat
  | _, 0 => []
  | w, n + 1 => w % 2 :: bitsR (w / 2) n
theorem bitsR_len : ∀ (w n : Nat), (bitsR w n).length = n
  | _, 0 => rfl
  | w, n + 1 => by simp [bitsR, bitsR_len]
theorem bitsR_le : ∀ (w n : Nat), ∀ d ∈ bitsR w n, d ≤ 1
  | _, 0 => by simp [bitsR]
  | w, n + 1 => by
    intro d hd
    simp only [bitsR, List.mem_cons] at hd
    rcases hd with rfl | hd
    · omega
    · exact bitsR_le _ _ d hd
theorem bitsR_num : ∀ (n w : Nat), w < 2 ^ n → num 2 (bitsR w n) = w
  | 0, w, h => by simp at h; simp [bitsR, num, h]
  | n + 1, w, h => by
    rw [bitsR, num, bitsR_num n (w / 2) (by rw [Nat.pow_succ] at h; omega)]
    omega
theorem bitsR_sum : ∀ (n w : Nat), (bitsR w n).sum = (upto w n).length
  | 0, w => by simp [bitsR, upto]
  | n + 1, w => by
    rw [bitsR, List.sum_cons, bitsR_sum n (w / 2)]
    unfold upto
    rw [List.range_succ_eq_map, List.filter_cons, List.filter_map]
    have e : (w.testBit ∘ Nat.succ) = (w / 2).testBit := by
      funext i
      simp [Nat.testBit_succ]
    have e0 : w.testBit 0 = decide (w % 2 = 1) := by rw [Nat.testBit_zero]
    simp only [e]
    by_cases h : w % 2 = 1
    · have : w.testBit 0 = true := by rw [e0]; simp [h]
      simp [this, h]; omega
    · have h0 : w % 2 = 0 := by omega
      have : w.testBit 0 = false := by rw [e0]; simp [h0]
      simp [this, h0]
theorem mask1 : maskN 1 32 = 6148914691236517205 := by decide
theorem mask2 : maskN 2 16 = 3689348814741910323 := by decide
theorem mask4 : maskN 4 8 = 1085102592571150095 := by decide
/-- The third step: the fields' sums fit their places. -/
theorem num_pairs4 {ds : List Nat} (hl : ds.length = 16) (hd : ∀ d ∈ ds, d ≤ 4) : (num 16 ds / 16 + num 16 ds) &&& maskN 4 8 = num 256 (pairs ds) := by
  cases ds with
  | nil => simp at hl
  | cons d ds =>
    have h16 : ∀ x ∈ d :: ds, x < 16 := fun x hx => by have := hd x hx; omega
    rw [num_div (by decide) (h16 d (by simp)), ← num_zero 16 ds, num_add _ _ (by simp)]
    have hb : ∀ x ∈ List.zipWith (· + ·) (ds ++ [0]) (d :: ds), x < 2 ^ 4 := by
      intro x hx
      obtain ⟨i, hi, rfl⟩ := List.getElem_of_mem hx
      rw [List.getElem_zipWith]
      have h1 : (ds ++ [0])[i]'(by simp at hi ⊢; omega) ≤ 4 := by
        have := List.getElem_mem (l := ds ++ [0]) (n := i) (by simp at hi ⊢; omega)
        rcases List.mem_append.1 this with h | h
        · exact hd _ (by simp [h])
        · simp at h; omega
      have h2 := hd _ (List.getElem_mem (l := d :: ds) (n := i) (by simp at hi ⊢; omega))
      omega
    have hlen : (List.zipWith (· + ·) (ds ++ [0]) (d :: ds)).length = 2 * 8 := by simp at hl ⊢; omega
    have := num_mask (m := 4) 8 (List.zipWith (· + ·) (ds ++ [0]) (d :: ds)) hlen hb
    rw [show (2 : Nat) ^ 4 = 16 from rfl] at this
    rw [this]
    have e : ∀ (n : Nat) (d : Nat) (ds : List Nat), (d :: ds).length = 2 * n → evens (List.zipWith (· + ·) (ds ++ [0]) (d :: ds)) = pairs (d :: ds) := by
      intro n
      induction n with
      | zero => intro d ds h; simp at h
      | succ n ih =>
        intro d ds h
        match ds, h with
        | [], h => simp at h; omega
        | [e], h => simp [evens, pairs]
        | e :: f :: ds, h =>
          have := ih f ds (by simp at h ⊢; omega)
          simp only [List.cons_append, List.zipWith_cons_cons, evens, pairs]
          rw [this]
    rw [e 8 d ds hl]
theorem num_drop : ∀ (k : Nat) (ds : List Nat), (∀ d ∈ ds, d < 256) → num 256 ds / 256 ^ k = num 256 (ds.drop k)
  | 0, ds, _ => by simp
  | k + 1, [], _ => by simp [num]
  | k + 1, d :: ds, h => by
    rw [Nat.pow_succ, Nat.mul_comm, ← Nat.div_div_eq_div_mul, num_div (by decide) (h d (by simp)), num_drop k ds (fun x hx => h x (by simp [hx])), List.drop_succ_cons]
theorem num_pad (b : Nat) (xs : List Nat) : ∀ k, num b (xs ++ List.replicate k 0) = num b xs
  | 0 => by simp
  | k + 1 => by rw [List.replicate_succ', ← List.append_assoc, num_zero, num_pad b xs k]
theorem num_step {k : Nat} {ds : List Nat} (hl : ds.length = 8) (hk : k ≤ 8) (hd : ∀ d ∈ ds, d ≤ 100) : (num 256 ds + num 256 ds / 256 ^ k) % 2 ^ 64 = num 256 (List.zipWith (· + ·) ds (ds.drop k ++ List.replicate k 0)) := by
  have hlen : (ds.drop k ++ List.replicate k 0).length = 8 := by simp [hl]; omega
  rw [num_drop k ds (fun d h => by have := hd d h; omega), ← num_pad 256 (ds.drop k) k, num_add _ _ (by rw [hl, hlen])]
  refine Nat.mod_eq_of_lt ?_
  have := num_lt (b := 256) (List.zipWith (· + ·) ds (ds.drop k ++ List.replicate k 0)) (by
    intro x hx
    obtain ⟨i, hi, rfl⟩ := List.getElem_of_mem hx
    rw [List.getElem_zipWith]
    have h1 := hd _ (List.getElem_mem (l := ds) (n := i) (by simp at hi; omega))
    have h2 : (ds.drop k ++ List.replicate k 0)[i]'(by simp at hi ⊢; omega) ≤ 100 := by
      have := List.getElem_mem (l := ds.drop k ++ List.replicate k 0) (n := i) (by simp at hi ⊢; omega)
      rcases List.mem_append.1 this with h | h
      · exact hd _ (List.mem_of_mem_drop h)
      · have := List.eq_of_mem_replicate h; omega
    omega)
  rw [List.length_zipWith, hl, hlen] at this
  simpa using this
theorem num_sum8 : ∀ ds : List Nat, ds.length = 8 → (∀ d ∈ ds, d ≤ 8) → oc6 (oc5 (oc4 (num 256 ds))) % 128 = ds.sum
  | [a, b, c, d, e, f, g, h], _, hd => by
    have h1 := hd a (by simp); have h2 := hd b (by simp); have h3 := hd c (by simp); have h4 := hd d (by simp)
    have h5 := hd e (by simp); have h6 := hd f (by simp); have h7 := hd g (by simp); have h8 := hd h (by simp)
    have q4 : oc4 (num 256 [a, b, c, d, e, f, g, h]) = num 256 [a + b, b + c, c + d, d + e, e + f, f + g, g + h, h + 0] :=
      num_step (k := 1) (ds := [a, b, c, d, e, f, g, h]) rfl (by decide) (fun x hx => by have := hd x hx; omega)
    have q5 : oc5 (num 256 [a + b, b + c, c + d, d + e, e + f, f + g, g + h, h + 0]) = num 256 [a + b + (c + d), b + c + (d + e), c + d + (e + f), d + e + (f + g), e + f + (g + h), f + g + (h + 0), g + h + 0, h + 0 + 0] :=
      num_step (k := 2) (ds := [a + b, b + c, c + d, d + e, e + f, f + g, g + h, h + 0]) rfl (by decide) (fun x hx => by simp at hx; omega)
    have q6 : oc6 (num 256 [a + b + (c + d), b + c + (d + e), c + d + (e + f), d + e + (f + g), e + f + (g + h), f + g + (h + 0), g + h + 0, h + 0 + 0]) = num 256 [a + b + (c + d) + (e + f + (g + h)), b + c + (d + e) + (f + g + (h + 0)), c + d + (e + f) + (g + h + 0), d + e + (f + g) + (h + 0 + 0), e + f + (g + h) + 0, f + g + (h + 0) + 0, g + h + 0 + 0, h + 0 + 0 + 0] :=
      num_step (k := 4) (ds := [a + b + (c + d), b + c + (d + e), c + d + (e + f), d + e + (f + g), e + f + (g + h), f + g + (h + 0), g + h + 0, h + 0 + 0]) rfl (by decide) (fun x hx => by simp at hx; omega)
    rw [q4, q5, q6, num]
    simp only [List.sum_cons, List.sum_nil]
    omega
/-- How many: the program's way is right. -/
theorem ocN_eq {w : Nat} (hw : w < 2 ^ 64) : ocN w = (upto w 64).length := by
  have l1 := bitsR_len w 64
  have b1 := bitsR_le w 64
  have e1 : oc1 w = num 4 (pairs (bitsR w 64)) := by
    have := num_pairs (m := 1) (n := 32) (ds := bitsR w 64) (by decide) (by rw [l1]) (by decide) (fun d hd => by have := b1 d hd; omega)
    rw [mask1, show (2 : Nat) ^ 1 = 2 from rfl, bitsR_num 64 w hw] at this
    unfold oc1
    rw [show (2 : Nat) ^ 1 = 2 from rfl, this]
    refine Nat.mod_eq_of_lt ?_
    have := num_lt (b := 4) (pairs (bitsR w 64)) (fun d hd => by have := pairs_le _ b1 d hd; omega)
    rw [pairs_len 32 _ (by rw [l1])] at this
    simpa using this
  have l2 := pairs_len 32 _ (show (bitsR w 64).length = 2 * 32 by rw [l1])
  have b2 := pairs_le _ b1
  have e2 : oc2 (oc1 w) = num 16 (pairs (pairs (bitsR w 64))) := by
    have := num_pairs (m := 2) (n := 16) (ds := pairs (bitsR w 64)) (by decide) (by rw [l2]) (by decide) (fun d hd => by have := b2 d hd; omega)
    rw [mask2, show (2 : Nat) ^ 2 = 4 from rfl] at this
    unfold oc2
    rw [e1, show (2 : Nat) ^ 2 = 4 from rfl, this]
    refine Nat.mod_eq_of_lt ?_
    have := num_lt (b := 16) (pairs (pairs (bitsR w 64))) (fun d hd => by have := pairs_le _ b2 d hd; omega)
    rw [pairs_len 16 _ (by rw [l2])] at this
    simpa using this
  have l3 := pairs_len 16 _ (show (pairs (bitsR w 64)).length = 2 * 16 by rw [l2])
  have b3 := pairs_le _ b2
  have e3 : oc3 (oc2 (oc1 w)) = num 256 (pairs (pairs (pairs (bitsR w 64)))) := by
    have h4 := num_pairs4 (ds := pairs (pairs (bitsR w 64))) (by rw [l3]) (fun d hd => by have := b3 d hd; omega)
    rw [mask4] at h4
    unfold oc3
    rw [e2, show (2 : Nat) ^ 4 = 16 from rfl]
    have hlt := num_lt (b := 16) (pairs (pairs (bitsR w 64))) (fun d hd => by have := b3 d hd; omega)
    rw [l3] at hlt
    have hlt2 : num 16 (pairs (pairs (bitsR w 64))) / 16 + num 16 (pairs (pairs (bitsR w 64))) < 2 ^ 64 := by
      cases hds : pairs (pairs (bitsR w 64)) with
      | nil => rw [hds] at l3; simp at l3
      | cons d ds =>
        have h16 : ∀ x ∈ d :: ds, x < 16 := fun x hx => by have := b3 x (by rw [hds]; exact hx); omega
        rw [num_div (by decide) (h16 d (by simp)), ← num_zero 16 ds, num_add _ _ (by simp)]
        have := num_lt (b := 16) (List.zipWith (· + ·) (ds ++ [0]) (d :: ds)) (by
          intro x hx
          obtain ⟨i, hi, rfl⟩ := List.getElem_of_mem hx
          rw [List.getElem_zipWith]
          have h1 : (ds ++ [0])[i]'(by simp at hi ⊢; omega) ≤ 4 := by
            have := List.getElem_mem (l := ds ++ [0]) (n := i) (by simp at hi ⊢; omega)
            rcases List.mem_append.1 this with h | h
            · have := b3 _ (by rw [hds]; exact List.mem_cons_of_mem _ h); omega
            · simp at h; omega
          have h2 := b3 _ (by rw [hds]; exact List.getElem_mem (l := d :: ds) (n := i) (by simp at hi ⊢; omega))
          omega)
        rw [hds] at l3
        simp only [List.length_zipWith, List.length_append, List.length_cons, List.length_nil] at this l3
        rw [show min (ds.length + (0 + 1)) (ds.length + 1) = 16 by omega] at this
        simpa using this
    rw [Nat.mod_eq_of_lt hlt2]
    exact h4
  have l4 := pairs_len 8 _ (show (pairs (pairs (bitsR w 64))).length = 2 * 8 by rw [l3])
  have b4 := pairs_le _ b3
  unfold ocN
  rw [e3, num_sum8 _ l4 (fun d hd => by have := b4 d hd; omega), pairs_sum, pairs_sum, pairs_sum, bitsR_sum]
theorem upto_add (s n : Nat) : ∀ m, m ≤ 64 → (upto s (64 * n + m)).length = (upto s (64 * n)).length + (upto (wd s n) m).length
  | 0, _ => by simp [upto_zero]
  | m + 1, h => by
    rw [← Nat.add_assoc, upto_succ, upto_succ, List.length_append, List.length_append, upto_add s n m (by omega), testBit_wd]
    have : m < 64 := by omega
    cases s.testBit (64 * n + m) <;> simp [this]
    omega
theorem manyF_eq (s : Nat) : ∀ k, manyF s k = (upto s (64 * k)).length
  | 0 => by simp [manyF, upto_zero]
  | k + 1 => by
    rw [manyF_succ, manyF_eq s k, ocN_eq (wd_lt s k), Nat.mul_succ, upto_add s k 64 (by omega)]
theorem many_list (s : Nat) : manyF s 16 = (listS s).length := manyF_eq s 16
end Go.Proofs.YtbcnejobnmljlaaDoor
