/-
  courierref1.Tag: the same bytes as poly.Sum. Conditions: bytes, a slice of at most a million.
-/
import Derived.Test.YtiemgibnmanhbaaPolA
namespace Go.Proofs.Ytiemgibnmanhbaa
open Go Go.SX
open Go.RowKit (Below)

/-! One round's bytes. -/

theorem CI_at (f : Nat → Int) (hf : ∀ i, 0 ≤ f i ∧ f i ≤ 255) (k : Nat) (hk : k ≤ 1000000) (j q : Nat) (hj : j ≤ 16) (hq : q < 17) : CI f (16 * (k : Int)) j q = if q < j then f (16 * k + q) else 0 := by
  induction j with
  | zero => rfl
  | succ j ih =>
    have ih := ih (by omega)
    show (if q = 0 + j then w32 (f (IntKind.i64.wrap (16 * (k : Int) + (j : Int))).toNat) else K 17 (CI f (16 * (k : Int)) j) q) = _
    have hi : (IntKind.i64.wrap (16 * (k : Int) + (j : Int))).toNat = 16 * k + j := by rw [IntKind.wrap_i64]; omega
    rw [hi, K_at 17 _ q hq, ih]
    have := hf (16 * k + j)
    by_cases h1 : q = 0 + j
    · have : q = j := by omega
      subst this
      rw [if_pos h1, if_pos (by omega)]
      exact w32_id _ (by omega) (by omega)
    · rw [if_neg h1]
      by_cases h2 : q < j
      · rw [if_pos h2, if_pos (by omega)]
      · rw [if_neg h2, if_neg (by omega)]

theorem BS_f (b : BT) (k : Nat) (hk : 16 * k ≤ b.n) : ∀ q, (BS b k).f q = b.f (16 * k + q) := by
  induction k with
  | zero => intro q; show b.f q = b.f (16 * 0 + q); simp
  | succ k ih =>
    have ih := ih (by omega)
    have hnk := BS_n b k
    intro q
    show (BS b k).f ((mI (BS b k).n).toNat + q) = _
    rw [ih]
    have : (mI (BS b k).n).toNat = 16 := by
      unfold mI
      rw [hnk]
      split <;> omega
    rw [this]
    congr 1
    omega

theorem CN_at (b : BT) (hn : b.n ≤ 1000000) (hf : ∀ i, 0 ≤ b.f i ∧ b.f i ≤ 255) (k : Nat) (hk : 16 * k < b.n) (q : Nat) (hq : q < 17) : CN b.f b.n (16 * (k : Int)) q = at_ (xL (BS b k).n (BS b k).f) q := by
  have hm := mG_is b.n k hn hk
  have hmin : Nat.min (b.n - 16 * k) 16 ≤ 16 := Nat.min_le_right _ _
  have ht : (mG b.n (16 * (k : Int))).toNat = Nat.min (b.n - 16 * k) 16 := by omega
  rw [xL_at, if_pos hq, BS_n, BS_f b k (by omega)]
  show (if q = 0 + (mG b.n (16 * (k : Int))).toNat then (1 : Int) else K 17 (CI b.f (16 * (k : Int)) (mG b.n (16 * (k : Int))).toNat) q) = _
  rw [ht, K_at 17 _ q hq, CI_at b.f hf k (by omega) _ q (by omega) hq, Nat.zero_add]

theorem and_two (x : Int) (h : 0 ≤ x ∧ x ≤ 255) : bits .and .u32 x 15 = bits .and .u8 x 15 ∧ bits .and .u32 x 252 = bits .and .u8 x 252 := by
  have e : ∀ i : Fin 256, bits .and .u32 (i.val : Int) 15 = bits .and .u8 (i.val : Int) 15 ∧ bits .and .u32 (i.val : Int) 252 = bits .and .u8 (i.val : Int) 252 := by decide +kernel
  have := e ⟨x.toNat, by omega⟩
  have ex : ((x.toNat : Nat) : Int) = x := by omega
  simpa only [ex] using this
theorem rG_is (key : Nat → Int) (hk : ∀ i, 0 ≤ key i ∧ key i ≤ 255) : rG key = rL key := by
  have e : ∀ i, w32 (key i) = key i := fun i => by have := hk i; exact w32_id _ (by omega) (by omega)
  unfold rG rL
  rw [e, e, e, e, e, e, e, e, e, e, e, e, e, e, e, e, (and_two _ (hk 3)).1, (and_two _ (hk 4)).2, (and_two _ (hk 7)).1, (and_two _ (hk 8)).2, (and_two _ (hk 11)).1, (and_two _ (hk 12)).2, (and_two _ (hk 15)).1]

theorem K_bytes (n : Nat) (f : Nat → Int) (h : ∀ i, i < n → 0 ≤ f i ∧ f i ≤ 255) (i : Nat) : 0 ≤ K n f i ∧ K n f i ≤ 255 := by
  by_cases hi : i < n
  · rw [K_at n f i hi]; exact h i hi
  · have : K n f i = 0 := by simp [K, upTo, hi]
    rw [this]; omega

theorem HG_val (key : Nat → Int) (b : BT) (hn : b.n ≤ 1000000) (hk : ∀ i, 0 ≤ key i ∧ key i ≤ 255) (hf : ∀ i, 0 ≤ b.f i ∧ b.f i ≤ 255) (k : Nat) (hkn : k ≤ nR b.n) :
    (∀ i, 0 ≤ HG PLc RTc key b k i ∧ HG PLc RTc key b k i ≤ 255) ∧ HG PLc RTc key b k 16 ≤ 4 ∧ ∃ q, bval (HG PLc RTc key b k) 17 = HS key b k + q * pp := by
  induction k with
  | zero => exact ⟨fun i => by show 0 ≤ (0 : Int) ∧ (0 : Int) ≤ _; omega, by show (0 : Int) ≤ 4; omega, 0, rfl⟩
  | succ k ih =>
    obtain ⟨i0, i1, q, hq⟩ := ih (by omega)
    have hlt : 16 * k < b.n := by unfold nR at hkn; omega
    have hxb := xL_bytes (BS b k).n (BS b k).f (BS_bytes b hf k)
    have hx16 := xL_16 (BS b k).n (BS b k).f
    have hc := CN_at b hn hf k hlt
    have hs : HG PLc RTc key b (k + 1) = RTc (K 17 (PLc (K 17 (HG PLc RTc key b k)) (K 17 (CN b.f b.n (16 * (k : Int)))))) (at_ (rG key)) := rfl
    rw [hs]
    generalize HG PLc RTc key b k = h at *
    generalize hC : CN b.f b.n (16 * (k : Int)) = c at *
    have hKh : ∀ i, 0 ≤ K 17 h i ∧ K 17 h i ≤ 255 := K_bytes 17 h fun i _ => i0 i
    have hKc : ∀ i, 0 ≤ K 17 c i ∧ K 17 c i ≤ 255 := K_bytes 17 c fun i hi => by rw [hc i hi]; exact hxb i
    obtain ⟨p0, o, ho⟩ := plus_val (K 17 h) (K 17 c) (fun i => by have := hKh i; omega) (fun i => by have := hKc i; omega)
    have e1 : bval (K 17 h) 17 = bval h 17 := bval_congr _ _ 17 fun i hi => K_at 17 h i hi
    have e2 : bval (K 17 c) 17 = blkV (BS b k).n (BS b k).f := bval_congr _ _ 17 fun i hi => by rw [K_at 17 c i hi, hc i hi]
    have r1 := bval_range h i0 16
    have r2 := bval_range (at_ (xL (BS b k).n (BS b k).f)) hxb 16
    have r3 := bval_range (PLc (K 17 h) (K 17 c)) p0 17
    have s1 : bval h 17 = bval h 16 + h 16 * 256 ^ 16 := rfl
    have s2 : blkV (BS b k).n (BS b k).f = bval (at_ (xL (BS b k).n (BS b k).f)) 16 + at_ (xL (BS b k).n (BS b k).f) 16 * 256 ^ 16 := rfl
    have b16 := hxb 16
    have h16 := i0 16
    rw [e1, e2] at ho
    generalize hP : PLc (K 17 h) (K 17 c) = p at *
    have ho0 : bval p 17 = bval h 17 + blkV (BS b k).n (BS b k).f := by
      simp only [Int.reducePow] at *
      omega
    obtain ⟨t0, t1, q', hq'⟩ := reft_val (K 17 p) (at_ (rG key)) (K_bytes 17 p fun i _ => p0 i) (by rw [rG_is key hk]; exact rL_bytes key hk)
    refine ⟨t0, t1, q * rV key + q', ?_⟩
    have e3 : bval (K 17 p) 17 = bval p 17 := bval_congr _ _ 17 fun i hi => K_at 17 p i hi
    have e4 : bval (at_ (rG key)) 17 = rV key := by rw [rG_is key hk]; rfl
    rw [hq', e3, e4, ho0, hq]
    show _ = (HS key b k + blkV (BS b k).n (BS b k).f) * rV key + _
    grind

theorem minusL_val : bval (at_ minusL) 17 = 85751156464076492792770401072805589286917 ∧ ∀ i, 0 ≤ at_ minusL i ∧ at_ minusL i ≤ 255 := by
  refine ⟨by decide +kernel, fun i => ?_⟩
  by_cases h : i < 17
  · have : ∀ j : Fin 17, 0 ≤ at_ minusL j.val ∧ at_ minusL j.val ≤ 255 := by decide +kernel
    exact this ⟨i, h⟩
  · have : at_ minusL i = 0 := by
      unfold at_
      rw [List.getD_eq_getElem?_getD, List.getElem?_eq_none (by show 17 ≤ i; omega)]
      rfl
    rw [this]; omega

theorem less_val (h : Nat → Int) (h0 : ∀ i, 0 ≤ h i ∧ h i ≤ 255) (h16 : h 16 ≤ 4) :
    (∀ i, 0 ≤ lessG PLc h i ∧ lessG PLc h i ≤ 255) ∧ (bval h 17 < pp → 252 ≤ lessG PLc h 16) ∧ (pp ≤ bval h 17 → lessG PLc h 16 ≤ 1 ∧ bval (lessG PLc h) 17 = bval h 17 - pp) ∧ bval h 17 < 2 * pp := by
  obtain ⟨m1, m2⟩ := minusL_val
  obtain ⟨p0, o, ho⟩ := plus_val (K 17 h) (at_ minusL) (fun i => by have := K_bytes 17 h (fun i _ => h0 i) i; omega) (fun i => by have := m2 i; omega)
  have e1 : bval (K 17 h) 17 = bval h 17 := bval_congr _ _ 17 fun i hi => K_at 17 h i hi
  rw [e1, m1] at ho
  change (∀ i, 0 ≤ lessG PLc h i ∧ lessG PLc h i ≤ 255) at p0
  change _ = bval (lessG PLc h) 17 + _ at ho
  generalize lessG PLc h = l at *
  have r1 := bval_range h h0 16
  have r2 := bval_range l p0 16
  have r3 := bval_range l p0 17
  have s1 : bval h 17 = bval h 16 + h 16 * 256 ^ 16 := rfl
  have s2 : bval l 17 = bval l 16 + l 16 * 256 ^ 16 := rfl
  have := h0 16
  have := p0 16
  simp only [Int.reducePow] at *
  unfold pp
  refine ⟨p0, fun hl => by omega, fun hl => by omega, by omega⟩

theorem addG_at (key : Nat → Int) (hk : ∀ i, 0 ≤ key i ∧ key i ≤ 255) (i : Nat) : at_ (addG key) i = if i < 16 then key (16 + i) else 0 := by
  unfold at_ addG
  by_cases h : i < 16
  · rw [if_pos h]
    have e : (upTo 16 (fun j => w32 (key (16 + j))) ++ [0]).getD i 0 = (upTo 16 (fun j => w32 (key (16 + j)))).getD i 0 := by
      unfold List.getD
      rw [List.getElem?_append_left (by simpa [upTo] using h)]
    rw [e, upTo_getD_at h]
    have := hk (16 + i)
    exact w32_id _ (by omega) (by omega)
  · rw [if_neg h]
    by_cases h16 : i = 16
    · subst h16; rfl
    · unfold List.getD
      rw [List.getElem?_eq_none (by simp [upTo]; omega)]
      rfl

theorem outG_val (key h : Nat → Int) (h0 : ∀ i, 0 ≤ h i ∧ h i ≤ 255) (hk : ∀ i, 0 ≤ key i ∧ key i ≤ 255) (x : Int) (hx : bval h 17 = x) : outG PLc key h = upTo 16 (byteAt (tagV x key)) := by
  have hKh := K_bytes 17 h fun i _ => h0 i
  have hA : ∀ i, 0 ≤ at_ (addG key) i ∧ at_ (addG key) i ≤ 255 := fun i => by
    rw [addG_at key hk]
    have := hk (16 + i)
    split <;> omega
  have e : plusL (K 17 h) (at_ (addG key)) = upTo 17 (cB (fun j => K 17 h j + at_ (addG key) j) 0) := by
    unfold plusL
    rw [plus_chain _ _ (fun i => by have := hKh i; omega) (fun i => by have := hA i; omega) 17]
  have hv := chain_val (fun j => K 17 h j + at_ (addG key) j) 0 16
  rw [bval_add, bval_congr (K 17 h) h 16 fun i hi => K_at 17 h i (by omega), bval_congr (at_ (addG key)) (fun i => key (16 + i)) 16 fun i hi => by rw [addG_at key hk, if_pos hi]] at hv
  have hr := bval_range _ (cB_range (fun j => K 17 h j + at_ (addG key) j) 0) 16
  have s1 : bval h 17 = bval h 16 + h 16 * 256 ^ 16 := rfl
  have ht : tagV x key = bval (cB (fun j => K 17 h j + at_ (addG key) j) 0) 16 := by
    unfold tagV
    rw [← hx, s1]
    simp only [Int.reducePow] at *
    omega
  unfold outG
  apply List.map_congr_left
  intro i hi
  have hi := List.mem_range.1 hi
  rw [ht, byteAt_bval _ (cB_range _ _) 16 i hi]
  show IntKind.u8.wrap ((plusL (K 17 h) (at_ (addG key))).getD i 0) = _
  rw [e, upTo_getD_at (by omega), IntKind.wrap_u8]
  have := cB_range (fun j => K 17 h j + at_ (addG key) j) 0 i
  omega

theorem tag_calls (key : Nat → Int) (b : BT) (hn : b.n ≤ 1000000) (hk : ∀ i, 0 ≤ key i ∧ key i ≤ 255) (hf : ∀ i, 0 ≤ b.f i ∧ b.f i ≤ 255) (η : Asg) (w : World) (hb : SX.BytesAt w b.a b.n .u8 b.f) :
    Calls Try.prog 10 ([ints .u8 (upTo 32 key), vwB b].map (SV.den η)).toArray w fun e w' => e = .returned ((ints .u8 (upTo 16 (tagB key b))).den η) ∧ Below w.heap.size w w' := by
  have hin : ∀ x ∈ [ints .u8 (upTo 32 key), vwB b], x.In w fun _ => False := by
    intro x hx
    simp only [List.mem_cons, List.not_mem_nil, or_false] at hx
    rcases hx with rfl | rfl
    · exact SV.plain_in (ints_plain _ _) w
    · exact hb
  obtain ⟨h0, h16, q, hq⟩ := HG_val key b hn hk hf (nR b.n) (Nat.le_refl _)
  have hst := tag_steps key b hn
  have hlv := tag_leaves key b (HG PLc RTc key b (nR b.n)) (CG b (nR b.n))
  have hps : AllOf (psG PLc RTc key b (nR b.n)) := .cons (St.same_refl _) (.cons hst (.cons hlv (.cons trivial .nil)))
  have hyes := tag_yes PLc RTc key b (nR b.n)
  have hno := tag_no PLc RTc key b (nR b.n)
  have hc7 : ((2 ^ 7 : Nat) : Int) = 128 := by decide
  rw [hc7] at hyes hno
  generalize psG PLc RTc key b (nR b.n) = ps at *
  generalize HG PLc RTc key b (nR b.n) = h at *
  obtain ⟨l0, l1, l2, l3⟩ := less_val h h0 h16
  have hb17 := (bval_range h h0 17).1
  by_cases hlt : bval h 17 < pp
  · have := l1 hlt
    have ht : (lessG PLc h 16 / 128 != 0) = true := by
      have : lessG PLc h 16 / 128 ≠ 0 := by omega
      simpa using this
    have := calls_of_run' (ctxL_ty _ _ _ _ _) (ctxL_orc _ _ _ _ _ lG_ok) (ctxL_sem _ _ _ _ _) names mixed hyes (AllOf.holds (.cons ht hps)) η w hin (SV.plain_in (ints_plain _ _))
    rw [outG_val key h h0 hk (HS key b (nR b.n) % pp) (by rw [hq] at hlt hb17 ⊢; rw [← Int.add_mul_emod_self_right (HS key b (nR b.n)) q pp, Int.emod_eq_of_lt hb17 hlt])] at this
    exact this
  · have hge : pp ≤ bval h 17 := by omega
    obtain ⟨l4, l5⟩ := l2 hge
    have ht : (lessG PLc h 16 / 128 != 0) = false := by
      have := l0 16
      have : lessG PLc h 16 / 128 = 0 := by omega
      simp [this]
    have := calls_of_run' (ctxL_ty _ _ _ _ _) (ctxL_orc _ _ _ _ _ lG_ok) (ctxL_sem _ _ _ _ _) names mixed hno (AllOf.holds (.cons ht hps)) η w hin (SV.plain_in (ints_plain _ _))
    rw [outG_val key (lessG PLc h) l0 hk (HS key b (nR b.n) % pp) (by
      rw [l5]
      have e : HS key b (nR b.n) % pp = (bval h 17 - pp) % pp := by
        rw [hq, Int.sub_emod_right, Int.add_mul_emod_self_right]
      rw [e, Int.emod_eq_of_lt (by omega) (by omega)])] at this
    exact this
end Go.Proofs.Ytiemgibnmanhbaa
