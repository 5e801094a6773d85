/-
  Arguments opened: arrays of integers by value, slices of bytes. Conditions: none.
-/
import Derived.Test.YtiemgibnmanhbaaSxEnd
import Derived.ProofKit
import Derived.OpenShut
import Derived.ShutString
import Derived.ChangeOld
import Derived.Below
namespace Go.SX
open Go.ChangeShapes Go.WideShapes Go.ChangeAt Go.RowKit

section
variable {H : Type} {enc : TypeId × Value → H} {P : Program} {w : World}

theorem open_arr {r : Reach} {b0 base n : Nat} {spare : Nat → Bool} {held : Bool} {t e : TypeId} {k : IntKind} {v : Value} {d : DataW H} {ps : List MemPlace} (ht : P.underlying t = some (.array n e)) (he : P.underlying e = some (.int k)) (hc1 : P.cellsOf e = 1)
    (hc : P.cellsOf t = n) (hval : Value.okWide P w r b0 t v) (hd : DataW.Trod enc P w base spare held t v d ps) :
    ∃ f : Nat → Int, v = .agg ((upTo n f).map (Value.int k)).toArray ∧ ps = [] ∧ ∀ i, i < n → (Lit.int k (f i)).wf = true := by
  simp only [Value.okWide, ht] at hval
  obtain ⟨cs, rfl, hsz, _⟩ := hval
  rw [hc] at hsz
  obtain ⟨fuel, hf⟩ := hd
  obtain ⟨xs, m, _, hx, _, hl, hg⟩ := DataW.trod_array ht hf
  simp only [Prod.mk.injEq] at hx
  obtain ⟨_, rfl⟩ := hx
  have hone : ∀ i, i < n → ∃ z, cs[i]? = some (.int k z) ∧ (Lit.int k z).wf = true ∧ ∃ dd, xs[i]? = some (dd, []) := by
    intro i hi
    have h1 := hg i hi
    have hxi : i < xs.length := by omega
    rw [List.getElem?_eq_getElem hxi] at h1
    obtain ⟨z, h2, h3, h4⟩ := DataW.trod_int he h1
    rw [hc1] at h2
    simp only [Nat.mul_one, Value.cells] at h2
    refine ⟨z, ?_, h4, _, by rw [List.getElem?_eq_getElem hxi, h3]⟩
    have h5 : ((cs.toList.drop i).take 1)[0]? = some (Value.int k z) := by rw [h2]; rfl
    rw [List.getElem?_take, if_pos (by omega), List.getElem?_drop] at h5
    simpa using h5
  let f : Nat → Int := fun i => match cs[i]? with
    | some (.int _ z) => z
    | _ => 0
  refine ⟨f, ?_, ?_, ?_⟩
  · congr 1
    apply Array.ext_getElem?
    intro i
    by_cases hi : i < n
    · obtain ⟨z, h1, _⟩ := hone i hi
      have hfi : f i = z := by simp only [f, h1]
      rw [h1]
      simp [upTo, hi, hfi]
    · rw [Array.getElem?_eq_none (by omega), Array.getElem?_eq_none (by simp [upTo]; omega)]
  · rw [List.flatMap_eq_nil_iff]
    intro x hx
    obtain ⟨i, hi⟩ := List.mem_iff_getElem?.1 hx
    have hin : i < n := by have := (List.getElem?_eq_some_iff.1 hi).1; omega
    obtain ⟨_, _, _, dd, h2⟩ := hone i hin
    rw [h2] at hi
    rw [← Option.some.inj hi]
  · intro i hi
    obtain ⟨z, h1, h2, _⟩ := hone i hi
    have hfi : f i = z := by simp only [f, h1]
    rw [hfi]
    exact h2

/-- A slice of bytes that came in. -/
theorem open_bytes {r : Reach} {b0 base : Nat} {spare : Nat → Bool} {held : Bool} {t e : TypeId} {k : IntKind} {v : Value} {d : DataW H} {ps : List MemPlace} (ht : P.underlying t = some (.slice e)) (he : P.underlying e = some (.int k)) (hc1 : P.cellsOf e = 1)
    (hval : Value.okWide P w r b0 t v) (hd : DataW.Trod enc P w base spare held t v d ps) :
    ∃ (a : Option Addr) (n cap : Nat) (f : Nat → Int), v = .slice a n cap ∧ n ≤ cap ∧ cap ≤ maxLen ∧ BytesAt w a n k f ∧ ∀ i, (Lit.int k (f i)).wf = true := by
  obtain ⟨a, n, cap, rfl⟩ := okWide_slice ht hval
  obtain ⟨fuel, hf⟩ := hd
  rcases open_ints ht he hc1 hf with ⟨hcs, _⟩ | ⟨x, l, c, zs, hcs, _, hl, hm, hz, _, hcell, hwz⟩
  · simp [Value.cells] at hcs
    obtain ⟨rfl, rfl, rfl⟩ := hcs
    exact ⟨none, 0, 0, fun _ => 0, rfl, Nat.le_refl _, by simp, .inl rfl, fun _ => by cases k <;> rfl⟩
  · simp [Value.cells] at hcs
    obtain ⟨rfl, rfl, rfl⟩ := hcs
    have hzl : n ≤ zs.length := by rw [hz]; split <;> omega
    refine ⟨some x, n, cap, fun i => zs.getD i 0, rfl, hl, hm, ?_, fun i => ?_⟩
    · rcases Nat.eq_zero_or_pos n with h0 | h0
      · exact .inl h0
      · have hc0 := hcell 0 (by omega)
        obtain ⟨b, off, spot⟩ := x
        have hspot : spot = none := by simpa [Addr.add] using World.cell?_spot hc0
        subst hspot
        have hlt : b < w.heap.size := World.block_lt_of_cell? w _ hc0
        refine .inr ⟨b, off, rfl, hlt, fun i hi => ?_⟩
        have := hcell i (by omega)
        rw [Addr.add_lit] at this
        exact this
    · show (Lit.int k (zs.getD i 0)).wf = true
      rcases Nat.lt_or_ge i zs.length with h | h
      · have : zs.getD i 0 ∈ zs := by simp [List.getD, h]
        exact hwz _ this
      · have : zs.getD i 0 = 0 := by simp [List.getD, h]
        rw [this]
        cases k <;> rfl
end
end Go.SX
