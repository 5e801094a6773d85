/-
  A number is a prime by a root of it and the primes of the number ahead of it. Conditions: none.
-/
namespace Go.Proofs.Ytbhmfgjdphphcaa

/-- Nothing but one and itself divides it. -/
def Prm (n : Nat) : Prop := 2 ≤ n ∧ ∀ d, d ∣ n → d = 1 ∨ d = n

theorem fill (n : Nat) : ∀ (f : Nat → Nat), (∀ i, i < n → f i < n) → (∀ i j, i < n → j < n → f i = f j → i = j) → ∀ y, y < n → ∃ i, i < n ∧ f i = y := by
  induction n with
  | zero => intro f _ _ y hy; omega
  | succ n ih =>
    intro f hf hi y hy
    by_cases hya : y = f n
    · exact ⟨n, by omega, hya.symm⟩
    have key : ∀ i, i < n → f i = n → f n < n := fun i h e => by
      have h1 := hf n (by omega)
      have h2 : f n ≠ n := fun h3 => by have := hi i n (by omega) (by omega) (by omega); omega
      omega
    have hs := ih (fun i => if f i = n then f n else f i) (fun i h => by
        show (if f i = n then f n else f i) < n
        by_cases e : f i = n
        · rw [if_pos e]; exact key i h e
        · rw [if_neg e]; have := hf i (by omega); omega) (fun i j h1 h2 e => by
        have e' : (if f i = n then f n else f i) = (if f j = n then f n else f j) := e
        by_cases e1 : f i = n
        · by_cases e2 : f j = n
          · exact hi i j (by omega) (by omega) (by omega)
          · rw [if_pos e1, if_neg e2] at e'
            have := hi n j (by omega) (by omega) e'; omega
        · by_cases e2 : f j = n
          · rw [if_neg e1, if_pos e2] at e'
            have := hi i n (by omega) (by omega) e'; omega
          · rw [if_neg e1, if_neg e2] at e'
            exact hi i j (by omega) (by omega) e')
    by_cases hyn : y = n
    · subst hyn
      have ha : f y < y := by have := hf y (by omega); omega
      obtain ⟨i, hi1, hi2⟩ := hs (f y) ha
      have hi2' : (if f i = y then f y else f i) = f y := hi2
      by_cases e : f i = y
      · exact ⟨i, by omega, e⟩
      · rw [if_neg e] at hi2'
        have := hi i y (by omega) (by omega) hi2'; omega
    · obtain ⟨i, hi1, hi2⟩ := hs y (by omega)
      have hi2' : (if f i = n then f n else f i) = y := hi2
      by_cases e : f i = n
      · rw [if_pos e] at hi2'; omega
      · rw [if_neg e] at hi2'; exact ⟨i, by omega, hi2'⟩

theorem has_prime (n : Nat) : ∀ m, m ≤ n → 2 ≤ m → ∃ q, Prm q ∧ q ∣ m := by
  induction n with
  | zero => intro m _ _; omega
  | succ n ih =>
    intro m h1 h2
    by_cases h : ∃ d, d ∣ m ∧ d ≠ 1 ∧ d ≠ m
    · obtain ⟨d, hd, n1, n2⟩ := h
      have hm : d ≤ m := Nat.le_of_dvd (by omega) hd
      have h0 : d ≠ 0 := fun h => by subst h; have := Nat.eq_zero_of_zero_dvd hd; omega
      obtain ⟨q, hq, hqd⟩ := ih d (by omega) (by omega)
      exact ⟨q, hq, Nat.dvd_trans hqd hd⟩
    · refine ⟨m, ⟨h2, fun d hd => ?_⟩, Nat.dvd_refl m⟩
      by_cases e1 : d = 1
      · exact Or.inl e1
      · by_cases e2 : d = m
        · exact Or.inr e2
        · exact (h ⟨d, hd, e1, e2⟩).elim

theorem Prm.dvd_mul {p a b : Nat} (hp : Prm p) (h : p ∣ a * b) : p ∣ a ∨ p ∣ b := by
  by_cases ha : p ∣ a
  · exact Or.inl ha
  · refine Or.inr ?_
    have hc : Nat.Coprime p a := by
      have h1 := hp.2 (Nat.gcd p a) (Nat.gcd_dvd_left p a)
      cases h1 with
      | inl h => exact h
      | inr h => exact (ha (by rw [← h]; exact Nat.gcd_dvd_right p a)).elim
    exact Nat.Coprime.dvd_of_dvd_mul_left hc h

def prodOf : List Nat → Nat
  | [] => 1
  | a :: l => a * prodOf l

theorem Prm.mem_prod {q : Nat} (hq : Prm q) : ∀ (l : List Nat), (∀ r, r ∈ l → Prm r) → q ∣ prodOf l → q ∈ l
  | [], _, h => by have := Nat.le_of_dvd (by decide) h; have := hq.1; simp [prodOf] at *; omega
  | a :: l, hl, h => by
    cases hq.dvd_mul (a := a) (b := prodOf l) h with
    | inl h1 =>
      cases (hl a (List.mem_cons_self ..)).2 q h1 with
      | inl h2 => have := hq.1; omega
      | inr h2 => subst h2; exact List.mem_cons_self ..
    | inr h1 => exact List.mem_cons_of_mem _ (Prm.mem_prod hq l (fun r hr => hl r (List.mem_cons_of_mem _ hr)) h1)

theorem pow_mod_mul (g n a b : Nat) : g ^ (a + b) % n = (g ^ a % n) * (g ^ b % n) % n := by rw [Nat.pow_add, Nat.mul_mod]
theorem pow_mul_one (g n a k : Nat) (hn : 1 < n) (h : g ^ a % n = 1) : g ^ (a * k) % n = 1 := by
  rw [Nat.pow_mul, Nat.pow_mod, h, Nat.one_pow]; exact Nat.mod_eq_of_lt hn

/-- The least power that is one. -/
theorem least (Q : Nat → Prop) (n : Nat) (h : Q n) : ∃ d, Q d ∧ d ≤ n ∧ ∀ i, i < d → ¬ Q i := by
  induction n using Nat.strongRecOn with
  | ind n ih =>
    by_cases hh : ∃ m, m < n ∧ Q m
    · obtain ⟨m, h1, h2⟩ := hh
      obtain ⟨d, a, b, c⟩ := ih m h1 h2
      exact ⟨d, a, by omega, c⟩
    · exact ⟨n, h, Nat.le_refl n, fun i hi hq => hh ⟨i, hi, hq⟩⟩

theorem lucas (n g : Nat) (fs : List Nat) (hn : 2 < n) (hprod : prodOf fs = n - 1) (hp : ∀ q, q ∈ fs → Prm q) (h1 : g ^ (n - 1) % n = 1)
    (h2 : ∀ q, q ∈ fs → g ^ ((n - 1) / q) % n ≠ 1) : Prm n ∧ ∀ x, 0 < x → x < n → ∃ i, g ^ i % n = x := by
  obtain ⟨d, ⟨hd0, hd1⟩, hdn, hmin⟩ := least (fun i => 0 < i ∧ g ^ i % n = 1) (n - 1) ⟨by omega, h1⟩
  have hdvd : d ∣ n - 1 := by
    have e := Nat.mod_add_div (n - 1) d
    have hr := Nat.mod_lt (n - 1) hd0
    rw [← e, pow_mod_mul, pow_mul_one g n d _ (by omega) hd1, Nat.mul_one, Nat.mod_mod] at h1
    have hz : (n - 1) % d = 0 := by
      rcases Nat.eq_zero_or_pos ((n - 1) % d) with h | h
      · exact h
      · exact (hmin _ hr ⟨h, h1⟩).elim
    exact Nat.dvd_of_mod_eq_zero hz
  have hd : d = n - 1 := by
    rcases Nat.lt_or_ge d (n - 1) with hlt | hge
    · obtain ⟨m, hm⟩ := hdvd
      have hm2 : 2 ≤ m := by
        rcases m with _ | _ | m
        · omega
        · omega
        · omega
      obtain ⟨q, hq, k, hk⟩ := has_prime m m (Nat.le_refl m) hm2
      have hmem : q ∈ fs := hq.mem_prod fs hp (by rw [hprod, hm, hk]; exact ⟨d * k, by rw [← Nat.mul_assoc, ← Nat.mul_assoc, Nat.mul_comm d q]⟩)
      have e : (n - 1) / q = d * k := by
        rw [hm, hk, show d * (q * k) = q * (d * k) from by rw [← Nat.mul_assoc, ← Nat.mul_assoc, Nat.mul_comm d q]]
        exact Nat.mul_div_cancel_left _ (by have := hq.1; omega)
      exact (h2 q hmem (by rw [e]; exact pow_mul_one g n d k (by omega) hd1)).elim
    · omega
  subst hd
  have nz : ∀ i, i < n - 1 → 0 < g ^ i % n := fun i hi => by
    rcases Nat.eq_zero_or_pos (g ^ i % n) with h | h
    · have e : n - 1 = i + (n - 1 - i) := by omega
      rw [e, pow_mod_mul, h, Nat.zero_mul, Nat.zero_mod] at h1; omega
    · exact h
  have inj0 : ∀ i j, i < j → j < n - 1 → g ^ i % n ≠ g ^ j % n := fun i j hij hj he => by
    have e1 : g ^ (n - 1 - i) % n * (g ^ i % n) % n = 1 := by rw [← pow_mod_mul, show n - 1 - i + i = n - 1 from by omega]; exact h1
    rw [he, ← pow_mod_mul, show n - 1 - i + j = (n - 1) + (j - i) from by omega, pow_mod_mul, h1, Nat.one_mul, Nat.mod_mod] at e1
    exact hmin (j - i) (by omega) ⟨by omega, e1⟩
  have all : ∀ x, 0 < x → x < n → ∃ i, g ^ i % n = x := fun x hx hxn => by
    obtain ⟨i, hi, he⟩ := fill (n - 1) (fun i => g ^ i % n - 1) (fun i hi => by have := nz i hi; have := Nat.mod_lt (g ^ i) (show 0 < n by omega); show g ^ i % n - 1 < n - 1; omega)
      (fun i j hi hj he => by
        have he' : g ^ i % n - 1 = g ^ j % n - 1 := he
        have a := nz i hi; have b := nz j hj
        have he2 : g ^ i % n = g ^ j % n := by omega
        rcases Nat.lt_trichotomy i j with h | h | h
        · exact (inj0 i j h hj he2).elim
        · exact h
        · exact (inj0 j i h hi he2.symm).elim) (x - 1) (by omega)
    have he' : g ^ i % n - 1 = x - 1 := he
    exact ⟨i, by have := nz i hi; omega⟩
  refine ⟨⟨by omega, fun d hd => ?_⟩, all⟩
  by_cases hdn2 : d = n
  · exact Or.inr hdn2
  · refine Or.inl ?_
    have hle := Nat.le_of_dvd (by omega) hd
    have hpos : 0 < d := Nat.pos_of_ne_zero fun h => by subst h; have := Nat.eq_zero_of_zero_dvd hd; omega
    obtain ⟨i, hi⟩ := all d hpos (by omega)
    -- d times a power is one
    have hone : ∃ y, (d * y) % n = 1 := by
      refine ⟨g ^ ((n - 1) * i - i), ?_⟩
      rw [← hi, Nat.mul_mod, Nat.mod_mod, ← Nat.mul_mod, ← Nat.pow_add, show i + ((n - 1) * i - i) = (n - 1) * i from by
        have : i ≤ (n - 1) * i := Nat.le_mul_of_pos_left i (by omega); omega]
      exact pow_mul_one g n (n - 1) i (by omega) h1
    obtain ⟨y, hy⟩ := hone
    have e := Nat.mod_add_div (d * y) n
    rw [hy] at e
    have h3 : d ∣ 1 := by
      have a1 : d ∣ n * (d * y / n) := Nat.dvd_trans hd (Nat.dvd_mul_right ..)
      have a2 : d ∣ 1 + n * (d * y / n) := by rw [e]; exact Nat.dvd_mul_right ..
      exact (Nat.dvd_add_iff_left a1).2 a2
    exact Nat.eq_one_of_dvd_one h3

theorem fermat_of (n g : Nat) (hn : 2 < n) (h1 : g ^ (n - 1) % n = 1) (all : ∀ x, 0 < x → x < n → ∃ i, g ^ i % n = x) (x : Nat) (h0 : 0 < x) (hx : x < n) : x ^ (n - 1) % n = 1 := by
  obtain ⟨i, hi⟩ := all x h0 hx
  rw [← hi, ← Nat.pow_mod, ← Nat.pow_mul, Nat.mul_comm]
  exact pow_mul_one g n (n - 1) i (by omega) h1

/-! Powers by squares. -/
def pm (n : Nat) : Nat → Nat → Nat → Nat
  | 0, _, _ => 1 % n
  | k + 1, b, e => bif Nat.beq e 0 then 1 % n else bif Nat.beq (e % 2) 0 then pm n k (b * b % n) (e / 2) else b * pm n k (b * b % n) (e / 2) % n
theorem pm_eq (n : Nat) : ∀ k b e, e < 2 ^ k → pm n k b e = b ^ e % n := by
  intro k
  induction k with
  | zero => intro b e h; have : e = 0 := by simp at h; exact h
            subst this; rfl
  | succ k ih =>
    intro b e h
    have hk : e / 2 < 2 ^ k := by rw [Nat.pow_succ] at h; omega
    have e2 : (b * b % n) ^ (e / 2) % n = b ^ (2 * (e / 2)) % n := by rw [← Nat.pow_mod, Nat.pow_mul, Nat.pow_two]
    unfold pm
    rcases h0 : Nat.beq e 0 with _ | _
    · rw [cond_false]
      rcases h1 : Nat.beq (e % 2) 0 with _ | _
      · rw [cond_false, ih _ _ hk, e2]
        have h3 : e % 2 ≠ 0 := fun h => by rw [h] at h1; simp at h1
        have h4 : e = 1 + 2 * (e / 2) := by omega
        have h5 : b ^ e = b * b ^ (2 * (e / 2)) := by rw [← Nat.pow_add_one', ← Nat.add_comm 1]; exact congrArg (b ^ ·) h4
        rw [h5, Nat.mul_mod, Nat.mod_mod, ← Nat.mul_mod]
      · rw [cond_true, ih _ _ hk, e2]
        have h3 : e % 2 = 0 := Nat.eq_of_beq_eq_true h1
        rw [show 2 * (e / 2) = e from by omega]
    · have := Nat.eq_of_beq_eq_true h0
      subst this; rfl

/-- Small primes, tried one by one. -/
def noneTo (n : Nat) : Nat → Bool
  | 0 => true
  | k + 1 => (bif Nat.ble 2 k then !(Nat.beq (n % k) 0) else true) && noneTo n k
theorem noneTo_spec (n : Nat) : ∀ k, noneTo n k = true → ∀ d, 2 ≤ d → d < k → n % d ≠ 0
  | 0, _, d, _, h => by omega
  | k + 1, hk, d, h2, h => by
    rw [noneTo, Bool.and_eq_true] at hk
    by_cases e : d = k
    · subst e
      have : Nat.ble 2 d = true := by rw [Nat.ble_eq]; exact h2
      rw [this, cond_true] at hk
      intro h0
      rw [h0] at hk; simp at hk
    · exact noneTo_spec n k hk.2 d h2 (by omega)
theorem prm_small (n k : Nat) (h2 : 2 ≤ n) (hk : n < k * k) (h : noneTo n k = true) : Prm n := by
  refine ⟨h2, fun d hd => ?_⟩
  by_cases e1 : d = 1
  · exact Or.inl e1
  by_cases e2 : d = n
  · exact Or.inr e2
  exfalso
  obtain ⟨m, hm⟩ := hd
  have hd0 : 2 ≤ d := by
    rcases d with _ | _ | d
    · omega
    · omega
    · omega
  have hm0 : 2 ≤ m := by
    rcases m with _ | _ | m
    · omega
    · omega
    · omega
  by_cases hdk : d < k
  · exact noneTo_spec n k h d hd0 hdk (by rw [hm]; exact Nat.mul_mod_right ..)
  · have hmk : m < k := by
      rcases Nat.lt_or_ge m k with h | h
      · exact h
      · have := Nat.mul_le_mul (show k ≤ d by omega) h; omega
    exact noneTo_spec n k h m hm0 hmk (by rw [hm]; exact Nat.mul_mod_left ..)

/-- What is asked of a root and of the primes, reckoned out. -/
def lucB (n g : Nat) (fs : List Nat) : Bool :=
  Nat.blt 2 n && (Nat.beq (prodOf fs) (n - 1) && (Nat.blt n (2 ^ 256) && (Nat.beq (pm n 256 g (n - 1)) 1 && fs.all fun q => !(Nat.beq (pm n 256 g ((n - 1) / q)) 1))))
theorem lucB_spec (n g : Nat) (fs : List Nat) (hp : ∀ q, q ∈ fs → Prm q) (h : lucB n g fs = true) : Prm n ∧ 2 < n ∧ g ^ (n - 1) % n = 1 ∧ ∀ x, 0 < x → x < n → ∃ i, g ^ i % n = x := by
  unfold lucB at h
  simp only [Bool.and_eq_true, List.all_eq_true, Bool.not_eq_true'] at h
  obtain ⟨a, b, c, d, e⟩ := h
  have a' : 2 < n := by simpa [Nat.blt_eq] using a
  have b' := Nat.eq_of_beq_eq_true b
  have c' : n < 2 ^ 256 := by
    have c2 : Nat.ble (n + 1) (2 ^ 256) = true := c
    rw [Nat.ble_eq] at c2
    omega
  have d' := Nat.eq_of_beq_eq_true d
  rw [pm_eq n 256 g (n - 1) (by omega)] at d'
  have hh := lucas n g fs a' b' hp d' fun q hq => by
    have := e q hq
    have hlt : (n - 1) / q < 2 ^ 256 := by have := Nat.div_le_self (n - 1) q; omega
    rw [pm_eq n 256 g _ hlt] at this
    intro h0
    rw [h0] at this; simp at this
  exact ⟨hh.1, a', d', hh.2⟩
theorem prm_2 : Prm 2 := prm_small 2 2 (by decide) (by decide) (by decide +kernel)
theorem prm_2437 : Prm 2437 := prm_small 2437 50 (by decide) (by decide) (by decide +kernel)
theorem prm_569003 : Prm 569003 := prm_small 569003 755 (by decide) (by decide) (by decide +kernel)
theorem prm_2773320623 : Prm 2773320623 := by
  refine (lucB_spec 2773320623 5 [2, 2437, 569003] (fun q hq => by
    simp only [List.mem_cons, List.not_mem_nil, or_false] at hq
    rcases hq with rfl | rfl | rfl
    · exact prm_2
    · exact prm_2437
    · exact prm_569003) (by decide +kernel)).1
theorem prm_13 : Prm 13 := prm_small 13 4 (by decide) (by decide) (by decide +kernel)
theorem prm_72106336199 : Prm 72106336199 := by
  refine (lucB_spec 72106336199 7 [2, 13, 2773320623] (fun q hq => by
    simp only [List.mem_cons, List.not_mem_nil, or_false] at hq
    rcases hq with rfl | rfl | rfl
    · exact prm_2
    · exact prm_13
    · exact prm_2773320623) (by decide +kernel)).1
theorem prm_3 : Prm 3 := prm_small 3 2 (by decide) (by decide) (by decide +kernel)
theorem prm_7 : Prm 7 := prm_small 7 3 (by decide) (by decide) (by decide +kernel)
theorem prm_103 : Prm 103 := prm_small 103 11 (by decide) (by decide) (by decide +kernel)
theorem prm_991 : Prm 991 := prm_small 991 32 (by decide) (by decide) (by decide +kernel)
theorem prm_8574133 : Prm 8574133 := by
  refine (lucB_spec 8574133 2 [2, 2, 3, 7, 103, 991] (fun q hq => by
    simp only [List.mem_cons, List.not_mem_nil, or_false] at hq
    rcases hq with rfl | rfl | rfl | rfl | rfl | rfl
    · exact prm_2
    · exact prm_2
    · exact prm_3
    · exact prm_7
    · exact prm_103
    · exact prm_991) (by decide +kernel)).1
theorem prm_19 : Prm 19 := prm_small 19 5 (by decide) (by decide) (by decide +kernel)
theorem prm_47 : Prm 47 := prm_small 47 7 (by decide) (by decide) (by decide +kernel)
theorem prm_127 : Prm 127 := prm_small 127 12 (by decide) (by decide) (by decide +kernel)
theorem prm_1919519569386763 : Prm 1919519569386763 := by
  refine (lucB_spec 1919519569386763 2 [2, 3, 7, 19, 47, 47, 127, 8574133] (fun q hq => by
    simp only [List.mem_cons, List.not_mem_nil, or_false] at hq
    rcases hq with rfl | rfl | rfl | rfl | rfl | rfl | rfl | rfl
    · exact prm_2
    · exact prm_3
    · exact prm_7
    · exact prm_19
    · exact prm_47
    · exact prm_47
    · exact prm_127
    · exact prm_8574133) (by decide +kernel)).1
theorem prm_5 : Prm 5 := prm_small 5 3 (by decide) (by decide) (by decide +kernel)
theorem prm_75707 : Prm 75707 := prm_small 75707 276 (by decide) (by decide) (by decide +kernel)
theorem prm_75445702479781427272750846543864801 : Prm 75445702479781427272750846543864801 := by
  refine (lucB_spec 75445702479781427272750846543864801 7 [2, 2, 2, 2, 2, 3, 3, 5, 5, 75707, 72106336199, 1919519569386763] (fun q hq => by
    simp only [List.mem_cons, List.not_mem_nil, or_false] at hq
    rcases hq with rfl | rfl | rfl | rfl | rfl | rfl | rfl | rfl | rfl | rfl | rfl | rfl
    · exact prm_2
    · exact prm_2
    · exact prm_2
    · exact prm_2
    · exact prm_2
    · exact prm_3
    · exact prm_3
    · exact prm_5
    · exact prm_5
    · exact prm_75707
    · exact prm_72106336199
    · exact prm_1919519569386763) (by decide +kernel)).1
theorem prm_31 : Prm 31 := prm_small 31 6 (by decide) (by decide) (by decide +kernel)
theorem prm_107 : Prm 107 := prm_small 107 11 (by decide) (by decide) (by decide +kernel)
theorem prm_223 : Prm 223 := prm_small 223 15 (by decide) (by decide) (by decide +kernel)
theorem prm_4153 : Prm 4153 := prm_small 4153 65 (by decide) (by decide) (by decide +kernel)
theorem prm_430751 : Prm 430751 := prm_small 430751 657 (by decide) (by decide) (by decide +kernel)
theorem prm_31757755568855353 : Prm 31757755568855353 := by
  refine (lucB_spec 31757755568855353 10 [2, 2, 2, 3, 31, 107, 223, 4153, 430751] (fun q hq => by
    simp only [List.mem_cons, List.not_mem_nil, or_false] at hq
    rcases hq with rfl | rfl | rfl | rfl | rfl | rfl | rfl | rfl | rfl
    · exact prm_2
    · exact prm_2
    · exact prm_2
    · exact prm_3
    · exact prm_31
    · exact prm_107
    · exact prm_223
    · exact prm_4153
    · exact prm_430751) (by decide +kernel)).1
theorem prm_43 : Prm 43 := prm_small 43 7 (by decide) (by decide) (by decide +kernel)
theorem prm_3727 : Prm 3727 := prm_small 3727 62 (by decide) (by decide) (by decide +kernel)
theorem prm_1923133 : Prm 1923133 := by
  refine (lucB_spec 1923133 2 [2, 2, 3, 43, 3727] (fun q hq => by
    simp only [List.mem_cons, List.not_mem_nil, or_false] at hq
    rcases hq with rfl | rfl | rfl | rfl | rfl
    · exact prm_2
    · exact prm_2
    · exact prm_3
    · exact prm_43
    · exact prm_3727) (by decide +kernel)).1
theorem prm_353 : Prm 353 := prm_small 353 19 (by decide) (by decide) (by decide +kernel)
theorem prm_57467 : Prm 57467 := prm_small 57467 240 (by decide) (by decide) (by decide +kernel)
theorem prm_132049 : Prm 132049 := prm_small 132049 364 (by decide) (by decide) (by decide +kernel)
theorem prm_74058212732561358302231226437062788676166966415465897661863160754340907 : Prm 74058212732561358302231226437062788676166966415465897661863160754340907 := by
  refine (lucB_spec 74058212732561358302231226437062788676166966415465897661863160754340907 2 [2, 3, 353, 57467, 132049, 1923133, 31757755568855353, 75445702479781427272750846543864801] (fun q hq => by
    simp only [List.mem_cons, List.not_mem_nil, or_false] at hq
    rcases hq with rfl | rfl | rfl | rfl | rfl | rfl | rfl | rfl
    · exact prm_2
    · exact prm_3
    · exact prm_353
    · exact prm_57467
    · exact prm_132049
    · exact prm_1923133
    · exact prm_31757755568855353
    · exact prm_75445702479781427272750846543864801) (by decide +kernel)).1
theorem prm_65147 : Prm 65147 := prm_small 65147 256 (by decide) (by decide) (by decide +kernel)
/-- The modulus. -/
abbrev Pn : Nat := 57896044618658097711785492504343953926634992332820282019728792003956564819949
theorem prm_root : Prm Pn ∧ 2 < Pn ∧ 2 ^ (Pn - 1) % Pn = 1 ∧ ∀ x, 0 < x → x < Pn → ∃ i, 2 ^ i % Pn = x := by
  exact lucB_spec Pn 2 [2, 2, 3, 65147, 74058212732561358302231226437062788676166966415465897661863160754340907] (fun q hq => by
    simp only [List.mem_cons, List.not_mem_nil, or_false] at hq
    rcases hq with rfl | rfl | rfl | rfl | rfl
    · exact prm_2
    · exact prm_2
    · exact prm_3
    · exact prm_65147
    · exact prm_74058212732561358302231226437062788676166966415465897661863160754340907) (by decide +kernel)
end Go.Proofs.Ytbhmfgjdphphcaa
