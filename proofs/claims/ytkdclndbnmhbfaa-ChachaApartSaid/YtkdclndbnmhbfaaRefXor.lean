/-
  The document's XOR by its contract. Conditions: a length of at most a million.
-/
import Derived.Test.YtkdclndbnmhbfaaXor
import Derived.Deep.RegionHeld3
import Derived.Deep.AppendLies
namespace Go.Proofs.Ytkdclndbnmhbfaa
open Go Go.RowKit
open Go.SX (upTo WUpd)

theorem xorF_mod {key : Nat → Int} {c cc : Int} {nonce f : Nat → Int} {k : Nat} (hcc : cc = (c + (k / 64 : Nat)) % 4294967296) :
    bits .xor .u8 (f k) ((blockL key cc nonce).getD (k % 64) 0) = xorF key c nonce f k := by
  unfold xorF
  rw [← hcc]

/-- The stream's block that is held at place k. -/
def heldS (key : Nat → Int) (c : Int) (nonce : Nat → Int) (k : Nat) (sb : List Int) : Prop := sb.length = 64 ∧ (k % 64 ≠ 0 → sb = blockL key ((c + (k / 64 : Nat)) % 4294967296) nonce)

theorem ownsRow_base {w : World} {B B' e size : Nat} {v : Value} {n : Nat} {xs : List Value} (h : w.ownsRow B e size v n xs) (hb : B' ≤ B) : w.ownsRow B' e size v n xs := by
  refine ⟨h.1, ?_⟩
  rcases h.2 with h | ⟨g, cap, cur, h1, h2, h3⟩
  · exact .inl h
  · exact .inr ⟨g, cap, cur, h1, by omega, h3⟩

theorem heldS_at {key : Nat → Int} {c : Int} {nonce f : Nat → Int} {k : Nat} {sb : List Int} (h : sb = blockL key ((c + (k / 64 : Nat)) % 4294967296) nonce) :
    bits .xor .u8 (f k) (sb.getD (k % 64) 0) = xorF key c nonce f k ∧ heldS key c nonce (k + 1) sb := by
  subst h
  refine ⟨xorF_mod rfl, blockL_length _ _ _, fun hk => ?_⟩
  rw [show (k + 1) / 64 = k / 64 by omega]

/-- What a round hands on, behind the append. -/
theorem round_end {w wx w2 : World} {k : Nat} {key nonce f : Nat → Int} {c : Int} {sb : List Int} {o v' : Value} {fk sk : Int} (hv : bits .xor .u8 fk sk = xorF key c nonce f k)
    (hb : Below w.heap.size w wx) (hB : w.heap.size + 3 ≤ wx.heap.size) (hown : wx.ownsRow (w.heap.size + 3) 5 1 o k (u8s (upTo k (xorF key c nonce f))))
    (hkey : wx.heap[w.heap.size]? = some (.cells (u8s (upTo 32 key)).toArray 23 (0, 0))) (hnon : wx.heap[w.heap.size + 1]? = some (.cells (u8s (upTo 12 nonce)).toArray 25 (0, 0)))
    (hsb : wx.heap[w.heap.size + 2]? = some (.cells (sb.map (Value.int .u8)).toArray 28 (0, 0))) {b1 : Obj}
    (hown2 : w2.ownsRow (w.heap.size + 3) 5 1 v' (k + 1) (u8s (upTo k (xorF key c nonce f)) ++ [.int .u8 (bits .xor .u8 fk sk)])) (hg : (wx.drew.alloc b1).grownBy w2 o.ownBlock) :
    w2.ownsRow (w.heap.size + 3) 5 1 v' (k + 1) (u8s (upTo (k + 1) (xorF key c nonce f))) ∧ Below w.heap.size w w2 ∧ w.heap.size + 3 ≤ w2.heap.size ∧
      w2.heap[w.heap.size]? = some (.cells (u8s (upTo 32 key)).toArray 23 (0, 0)) ∧ w2.heap[w.heap.size + 1]? = some (.cells (u8s (upTo 12 nonce)).toArray 25 (0, 0)) ∧
      w2.heap[w.heap.size + 2]? = some (.cells (sb.map (Value.int .u8)).toArray 28 (0, 0)) := by
  have hlt := hown.lt
  have hsz := hg.size
  simp at hsz
  have hbl : ∀ j, j < w.heap.size + 3 → w2.heap[j]? = wx.heap[j]? := fun j hj => by
    rw [hg.block j (by simp; omega) (fun h => by have := hlt j h.symm; omega)]
    exact heap_alloc_old wx.drew _ (by simp; omega)
  refine ⟨by rw [u8s_succ, ← hv]; exact hown2, ?_, by omega, by rw [hbl _ (by omega)]; exact hkey, by rw [hbl _ (by omega)]; exact hnon, by rw [hbl _ (by omega)]; exact hsb⟩
  have hbs := hb.size
  exact (hb.drew.alloc (by simp; omega) _).grown hg (by simp; omega) (fun j hj => by have := hlt j hj; omega)

set_option maxHeartbeats 1600000 in
theorem refxor_any (key nonce : Nat → Int) (c : Int) (a : Option Addr) (n ca : Nat) (f : Nat → Int) (w : World) (hn : n ≤ 1000000) (_ : 0 ≤ c) (_ : c < 4294967296) (hf : BytesAt w a n f) :
    Calls Try.prog 13 #[.agg (u8s (upTo 32 key)).toArray, .int .u32 c, .agg (u8s (upTo 12 nonce)).toArray, .slice a n ca] w fun e w' => ∃ v,
      e = .returned v ∧ w'.ownsRow w.heap.size 5 1 v n (u8s (upTo n (xorF key c nonce f))) ∧ Below w.heap.size w w' := by
  obtain ⟨i0, hi, hz0, hz1, hz2⟩ := info_parts info5
  have Hlt := Lib.hid hf.lt
  have Hf := Lib.hid hf
  clear hf
  go_enter Try.func13, Try.ntmps13
  go_wp2
  go_loopw [9, 11] (fun o i wr => ∃ (k : Nat) (sb : List Int), k ≤ n ∧ i = .int .i64 k ∧ wr.ownsRow (w.heap.size + 3) 5 1 o k (u8s (upTo k (xorF key c nonce f))) ∧ Below w.heap.size w wr ∧ w.heap.size + 3 ≤ wr.heap.size ∧
      wr.heap[w.heap.size]? = some (.cells (u8s (upTo 32 key)).toArray 23 (0, 0)) ∧ wr.heap[w.heap.size + 1]? = some (.cells (u8s (upTo 12 nonce)).toArray 25 (0, 0)) ∧
      wr.heap[w.heap.size + 2]? = some (.cells (sb.map (Value.int .u8)).toArray 28 (0, 0)) ∧ heldS key c nonce k sb) (fun _ i _ => n - (intOf i).toNat)
  case atStart =>
    refine ⟨0, List.replicate 64 0, Nat.zero_le _, rfl, World.ownsRow_nil _ _ _ _, (((Below.refl _ w).alloc (Nat.le_refl _) _).alloc (by simp) _).alloc (by simp; omega) _, by simp, ?_, ?_, ?_, by simp, by simp⟩
    · rw [heap_alloc_old _ _ (by simp; omega)]; exact heap_alloc2_old _ _ _
    · rw [heap_alloc_old _ _ (by simp)]; exact heap_alloc2_new _ _ _
    · rw [show w.heap.size + 2 = ((w.alloc (.cells (u8s (upTo 32 key)).toArray 23)).alloc (.cells (u8s (upTo 12 nonce)).toArray 25)).heap.size by simp]
      exact heap_alloc_new _ _
  case round =>
    obtain ⟨k, sb, hk, rfl, hown, hb, hsz, hkey, hnon, hsb, hheld⟩ := hrel
    have Hheld := Lib.hid hheld
    have Hb := Lib.hid hb
    have Hown := Lib.hid hown
    clear hheld hb hown
    by_cases hlt : k < n
    · by_cases hm : k % 64 = 0
      · have hm' : ((k : Int) % 64 == 0) = true := by simp; omega
        have Hm := Lib.hid hm
        clear hm
        obtain ⟨cc, hcc⟩ : ∃ cc, cc = (c + (k / 64 : Nat)) % 4294967296 := ⟨_, rfl⟩
        have hcw : (c + (k : Int) / 64) % 4294967296 = cc := by rw [hcc]; omega
        have Hcc := Lib.hid hcc
        have Hsl := Lib.hid Hheld.out.1
        clear hcc
        go_wp2_with (first
          | (refine wpList_load_row rfl 23 _ rfl w.heap.size rfl 23 (u8s (upTo 32 key)).toArray (0, 0) _ hkey Try.underlying23 rfl info23 ?_)
          | (refine wpList_load_row rfl 25 _ rfl (w.heap.size + 1) rfl 25 (u8s (upTo 12 nonce)).toArray (0, 0) _ hnon Try.underlying25 rfl info25 ?_)
          | (go_at_call 10; refine (ref_any key cc nonce _).mono ?_; rintro e w2 ⟨rfl, hb2⟩)
          | (refine wpList_store_ints rfl 28 _ _ rfl rfl (w.heap.size + 1 + 1) rfl .u8 (blockL key cc nonce) rfl 28 sb ((hb2.block _ (by omega)).trans hsb) (by rw [blockL_length]; exact Hsl.out) (by rw [blockL_length]; exact info28) ?_; intro w3 hu))
        have hsz2 := hb2.size
        have hsz3 : w2.heap.size ≤ w3.heap.size := Nat.le_of_eq hu.size.symm
        have Hbl : Hid (∀ j, j < wr.heap.size → j ≠ w.heap.size + 2 → w3.heap[j]? = wr.heap[j]?) := fun j hj hne => (hu.other j (by omega)).trans (hb2.block j hj)
        have Hg : Hid (wr.grownBy w3 (some (w.heap.size + 2))) := ⟨hu.os.trans hb2.os, hu.tape.trans hb2.tape, hu.output.trans hb2.output, by omega, fun j hj hne => Hbl.out j hj (fun e => hne (by rw [e]))⟩
        have Hsb3 := Lib.hid hu.here
        have Hb3 : Hid (Below w.heap.size w w3) := Hb.out.grown Hg.out (by omega) (fun j hj => by cases hj; omega)
        have Hown3 : Hid (w3.ownsRow (w.heap.size + 3) 5 1 u9 k (u8s (upTo k (xorF key c nonce f)))) := Hown.out.kept Hg.out (by
          cases hv : u9.ownBlock with
          | none => exact .inl rfl
          | some g => exact .inr (by have := (Hown.out.lt g hv).1; intro e; cases e; omega))
        have Hk3 := Lib.hid ((Hbl.out w.heap.size (by omega) (by omega)).trans hkey)
        have Hn3 := Lib.hid ((Hbl.out (w.heap.size + 1) (by omega) (by omega)).trans hnon)
        clear hu hb2 hkey hnon hsb
        obtain ⟨sj, hsj⟩ : ∃ sj, sj = ((blockL key cc nonce)).getD (k % 64) 0 := ⟨_, rfl⟩
        obtain ⟨fj, hfj⟩ : ∃ fj, fj = f k := ⟨_, rfl⟩
        obtain ⟨hv, hheld⟩ := heldS_at (key := key) (c := c) (nonce := nonce) (f := f) (k := k) (sb := (blockL key cc nonce)) (by rw [← Hcc.out])
        rw [← hsj, ← hfj] at hv
        have HV := Lib.hid hv
        have HH := Lib.hid hheld
        have hsc : w3.cell? ⟨w.heap.size + 1 + 1, k % 64, none⟩ = some (.int .u8 sj) := by
          rw [cell_of_row _ _ _ _ _ _ Hsb3.out, hsj]
          simp [List.getD, List.getElem?_eq_getElem (show k % 64 < ((blockL key cc nonce)).length by rw [blockL_length]; omega)]
        obtain ⟨bb, off, rfl, hcell⟩ : ∃ bb off, a = some ⟨bb, off, none⟩ ∧ w3.cell? ⟨bb, off + k, none⟩ = some (.int .u8 fj) := by
          rcases Hf.out.below Hb3.out Hlt.out with h | ⟨b, off, rfl, h⟩
          · omega
          · exact ⟨b, off, rfl, by rw [hfj]; exact h k hlt⟩
        have HFJ := Lib.hid hfj
        have HSJ := Lib.hid hsj
        clear hv hheld hfj hsj
        have et : (k : Int).tmod 64 = (k : Int) % 64 := Int.tmod_eq_emod_of_nonneg (by omega)
        have e0 : 0 ≤ (k : Int) % 64 := by omega
        have e1 : (k : Int) % 64 < 64 := by omega
        have e2 : ((k : Int) % 64).toNat = k % 64 := by omega
        have L1 : bb < w3.heap.size := World.block_lt_of_cell? w3 _ hcell
        have L2 : w.heap.size + 1 + 1 < w3.heap.size := World.block_lt_of_cell? w3 _ hsc
        have L4 : bb < w.heap.size := Hlt.out _ rfl (by omega)
        have N1 : u9.ownBlock ≠ some bb := fun h => by have := (Hown3.out.lt bb h).1; omega
        have N2 : u9.ownBlock ≠ some (w.heap.size + 1 + 1) := fun h => by have := (Hown3.out.lt _ h).1; omega
        go_region_held3 (fun w' => w'.cell? ⟨bb, off + k, none⟩ = some (.int .u8 fj) ∧ w'.cell? ⟨w.heap.size + 1 + 1, k % 64, none⟩ = some (.int .u8 sj)) (first | go_keep | (go_split_ands; exact ⟨by rw [hg4.cell_far _ (by simp; omega) (Ne.symm N1)]; assumption, by rw [hg4.cell_far _ (by simp; omega) (Ne.symm N2)]; assumption⟩))
          ((refine step_append_lies _ (by rfl) _ _ _ (by rfl) (w.heap.size + 3) 5 i0 _ 1 1 Try.underlying26 hi hz0 hz1 hz2 rfl (by omega) u9 k (u8s (upTo k (xorF key c nonce f))) (by rfl) ((Hown3.out.alloc _).drew) ⟨w3.heap.size, 0, none⟩ 1 1 [.int .u8 (bits .xor .u8 fj sj)] (by rfl) (by rfl) (World.news_of_block (cs := #[.int .u8 (bits .xor .u8 fj sj)]) (t := 5) (fr := (0, 0)) (heap_alloc_new w3 _)) (by simp [Value.oneCell']) (by omega) (by unfold maxLen; omega) (by omega) (by simp; omega) (w3.heap.size + 1) (by simp) ?_; intro gg cap w4 hown4 hg4 hat hlt4))
        have HE := Lib.hid (round_end (sb := (blockL key cc nonce)) HV.out Hb3.out (by omega) Hown3.out Hk3.out Hn3.out Hsb3.out hown4 hg4)
        clear hown4 hg4 hat
        go_wp2
        go_roundw
        case rel => exact ⟨k + 1, (blockL key cc nonce), by omega, by go_num, HE.out.1, HE.out.2.1, HE.out.2.2.1, HE.out.2.2.2.1, HE.out.2.2.2.2.1, HE.out.2.2.2.2.2, HH.out⟩
        case measure => simp [intOf]; omega
      · have hm' : ((k : Int) % 64 == 0) = false := by simp; omega
        have Hm := Lib.hid hm
        clear hm
        have Hk := Lib.hid hkey
        have Hn := Lib.hid hnon
        have Hsb := Lib.hid hsb
        clear hkey hnon hsb
        go_wp2
        obtain ⟨sj, hsj⟩ : ∃ sj, sj = (sb).getD (k % 64) 0 := ⟨_, rfl⟩
        obtain ⟨fj, hfj⟩ : ∃ fj, fj = f k := ⟨_, rfl⟩
        obtain ⟨hv, hheld⟩ := heldS_at (key := key) (c := c) (nonce := nonce) (f := f) (k := k) (sb := sb) (Hheld.out.2 Hm.out)
        rw [← hsj, ← hfj] at hv
        have HV := Lib.hid hv
        have HH := Lib.hid hheld
        have hsc : wr.cell? ⟨w.heap.size + 1 + 1, k % 64, none⟩ = some (.int .u8 sj) := by
          rw [cell_of_row _ _ _ _ _ _ Hsb.out, hsj]
          simp [List.getD, List.getElem?_eq_getElem (show k % 64 < (sb).length by rw [Hheld.out.1]; omega)]
        obtain ⟨bb, off, rfl, hcell⟩ : ∃ bb off, a = some ⟨bb, off, none⟩ ∧ wr.cell? ⟨bb, off + k, none⟩ = some (.int .u8 fj) := by
          rcases Hf.out.below Hb.out Hlt.out with h | ⟨b, off, rfl, h⟩
          · omega
          · exact ⟨b, off, rfl, by rw [hfj]; exact h k hlt⟩
        have HFJ := Lib.hid hfj
        have HSJ := Lib.hid hsj
        clear hv hheld hfj hsj
        have et : (k : Int).tmod 64 = (k : Int) % 64 := Int.tmod_eq_emod_of_nonneg (by omega)
        have e0 : 0 ≤ (k : Int) % 64 := by omega
        have e1 : (k : Int) % 64 < 64 := by omega
        have e2 : ((k : Int) % 64).toNat = k % 64 := by omega
        have L1 : bb < wr.heap.size := World.block_lt_of_cell? wr _ hcell
        have L2 : w.heap.size + 1 + 1 < wr.heap.size := World.block_lt_of_cell? wr _ hsc
        have L4 : bb < w.heap.size := Hlt.out _ rfl (by omega)
        have N1 : u9.ownBlock ≠ some bb := fun h => by have := (Hown.out.lt bb h).1; omega
        have N2 : u9.ownBlock ≠ some (w.heap.size + 1 + 1) := fun h => by have := (Hown.out.lt _ h).1; omega
        go_region_held3 (fun w' => w'.cell? ⟨bb, off + k, none⟩ = some (.int .u8 fj) ∧ w'.cell? ⟨w.heap.size + 1 + 1, k % 64, none⟩ = some (.int .u8 sj)) (first | go_keep | (go_split_ands; exact ⟨by rw [hg4.cell_far _ (by simp; omega) (Ne.symm N1)]; assumption, by rw [hg4.cell_far _ (by simp; omega) (Ne.symm N2)]; assumption⟩))
          ((refine step_append_lies _ (by rfl) _ _ _ (by rfl) (w.heap.size + 3) 5 i0 _ 1 1 Try.underlying26 hi hz0 hz1 hz2 rfl (by omega) u9 k (u8s (upTo k (xorF key c nonce f))) (by rfl) ((Hown.out.alloc _).drew) ⟨wr.heap.size, 0, none⟩ 1 1 [.int .u8 (bits .xor .u8 fj sj)] (by rfl) (by rfl) (World.news_of_block (cs := #[.int .u8 (bits .xor .u8 fj sj)]) (t := 5) (fr := (0, 0)) (heap_alloc_new wr _)) (by simp [Value.oneCell']) (by omega) (by unfold maxLen; omega) (by omega) (by simp; omega) (wr.heap.size + 1) (by simp) ?_; intro gg cap w4 hown4 hg4 hat hlt4))
        have HE := Lib.hid (round_end (sb := sb) HV.out Hb.out (by omega) Hown.out Hk.out Hn.out Hsb.out hown4 hg4)
        clear hown4 hg4 hat
        go_wp2
        go_roundw
        case rel => exact ⟨k + 1, sb, by omega, by go_num, HE.out.1, HE.out.2.1, HE.out.2.2.1, HE.out.2.2.2.1, HE.out.2.2.2.2.1, HE.out.2.2.2.2.2, HH.out⟩
        case measure => simp [intOf]; omega
    · have hkn : k = n := by omega
      subst hkn
      go_wp2
      go_ret
      exact ⟨_, rfl, ownsRow_base Hown.out (by omega), Hb.out⟩
end Go.Proofs.Ytkdclndbnmhbfaa
