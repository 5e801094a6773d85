/-
  The program's XOR by its contract. Conditions: a length of at most a million.
-/
import Derived.Test.YtkdclndbnmhbfaaBytes
namespace Go.Proofs.Ytkdclndbnmhbfaa
open Go Go.RowKit
open Go.SX (upTo WUpd)

/-- A whole array of integers stored into a row. -/
theorem wpList_store_ints {P : Program} {ops : Array Oper} {rest : List Oper} {o : Oper} {a : Act} {w : World} {Q : Exit → Act → World → Prop} (hgd : o.guard = none) (ty : TypeId) (x y : Operand) (ho : o.op = .store ty x y) (hdst : o.dst = none)
    (g : Nat) (hx : a.eval x = .pointer (some ⟨g, 0, none⟩)) (k : IntKind) (l : List Int) (hy : a.eval y = .agg (l.map (Value.int k)).toArray) (t : TypeId) (cur : List Int)
    (hg : w.heap[g]? = some (.cells (cur.map (Value.int k)).toArray t (0, 0))) (hlen : cur.length = l.length) (hi : (P.info? ty).map (·.size) = some l.length)
    (h : ∀ w', WUpd w w' g (w'.heap[g]? = some (.cells (l.map (Value.int k)).toArray t (0, 0))) → wpList P ops Q rest a w') : wpList P ops Q (o :: rest) a w := by
  refine wpList_plain hgd fun K hK => ?_
  obtain ⟨inf, hinf, hsz⟩ := Option.map_eq_some_iff.1 hi
  have hmap : ∀ (l : List Int), (l.map (SX.SC.int k)).map (SX.SC.den SX.nil) = l.map (Value.int k) := fun l => by simp [Function.comp_def, SX.SC.den]
  obtain ⟨w', hrun, hu⟩ := SX.run_storeCells (P := P) SX.nil g t (l.map (SX.SC.int k)) (cur.map (SX.SC.int k)) 0 0 w (by rw [hmap]; exact hg) (by simp [hlen])
  have hspl : SX.splice (cur.map (SX.SC.int k)) (0 + 0) (l.map (SX.SC.int k)) = l.map (SX.SC.int k) := by simp [SX.splice, ← hlen]
  rw [hspl, hmap] at hu
  rw [hmap] at hrun
  unfold Oper.wp execOp
  simp only [ho, hx, hy, Instr.storeAt, Instr.sureAddr, Sem.run_bind, Sem.run_pure, Result.andThen_ok, storeVar, sizeOf, typeInfo, run_program, hinf, Value.cells, List.size_toArray, List.length_map, hsz, ne_eq, not_true_eq_false, if_false,
    List.toList_toArray, hrun]
  show K (a.put o.dst undef) w'
  rw [hdst]
  exact hK _ _ (h w' hu)

theorem WUpd.below {w w' : World} {b : Nat} {H : Prop} (h : WUpd w w' b H) : Below b w w' := ⟨h.os, h.tape, h.output, Nat.le_of_eq h.size.symm, fun k hk => h.other k (by omega)⟩

theorem below_grown {w w' : World} (h : Below w.heap.size w w') : w.grownBy w' none := ⟨h.os, h.tape, h.output, h.size, fun k hk _ => h.block k hk⟩

def xorF (key : Nat → Int) (c : Int) (nonce : Nat → Int) (f : Nat → Int) (i : Nat) : Int :=
  bits .xor .u8 (f i) ((blockL key ((c + (i / 64 : Nat)) % 4294967296) nonce).getD (i % 64) 0)
def mixF (m : Nat) (X : Nat → Int) (i : Nat) : Int := if i < m then X i else 0

theorem upTo_congr {n : Nat} {f g : Nat → Int} (h : ∀ i, i < n → f i = g i) : upTo n f = upTo n g := List.map_congr_left fun i hi => h i (List.mem_range.1 hi)
theorem mixF_set {n m : Nat} (X : Nat → Int) : (u8s (upTo n (mixF m X))).set m (.int .u8 (X m)) = u8s (upTo n (mixF (m + 1) X)) := by
  apply List.ext_getElem?
  intro i
  rw [List.getElem?_set]
  by_cases hi : i < n
  · rw [u8s_get _ _ _ hi, u8s_get _ _ _ hi, u8s_length]
    by_cases hm : m = i
    · subst hm; simp [hi, mixF]
    · rw [if_neg hm]
      simp only [mixF]
      by_cases h1 : i < m
      · rw [if_pos h1, if_pos (by omega)]
      · rw [if_neg h1, if_neg (by omega)]
  · rw [List.getElem?_eq_none (by rw [u8s_length]; omega)]
    by_cases hm : m = i
    · rw [if_pos hm, if_neg (by rw [u8s_length]; omega)]; rw [List.getElem?_eq_none (by rw [u8s_length]; omega)]
    · rw [if_neg hm, List.getElem?_eq_none (by rw [u8s_length]; omega)]

theorem mixF_end {n r j : Nat} (X : Nat → Int) (h : ¬ (j < 64 ∧ r + j < n)) (h1 : j ≤ 64) (h2 : r + j ≤ n) : upTo n (mixF (r + j) X) = upTo n (mixF (r + 64) X) := by
  refine upTo_congr fun i hi => ?_
  unfold mixF
  by_cases h3 : i < r + j
  · rw [if_pos h3, if_pos (by omega)]
  · rw [if_neg h3, if_neg (by omega)]
theorem mixF_all {n r : Nat} (X : Nat → Int) (h : n ≤ r) : upTo n (mixF r X) = upTo n X := by
  refine upTo_congr fun i hi => ?_
  unfold mixF
  rw [if_pos (by omega)]
theorem xorF_at {key : Nat → Int} {c cc : Int} {nonce f : Nat → Int} {r j k : Nat} (hr : r = 64 * k) (hj : j < 64) (hcc : cc = (c + k) % 4294967296) :
    bits .xor .u8 (f (r + j)) ((blockL key cc nonce).getD j 0) = xorF key c nonce f (r + j) := by
  unfold xorF
  rw [show (r + j) / 64 = k by omega, show (r + j) % 64 = j by omega, ← hcc]

theorem made_zeros (n : Nat) (X : Nat → Int) : (madeCells (Value.cells (.int .u8 0)) (n * 1)).toList = u8s (upTo n (mixF 0 X)) := by
  apply List.ext_getElem?
  intro i
  by_cases hi : i < n
  · rw [u8s_get _ _ _ hi]
    simp [madeCells, Value.cells, hi, mixF, Nat.mod_one]
  · rw [List.getElem?_eq_none (by simp [madeCells]; omega), List.getElem?_eq_none (by rw [u8s_length]; omega)]

theorem info28 : (Try.prog.info? 28).map (·.size) = some 64 := by kernel_rfl
theorem info23 : (Try.prog.info? 23).map (·.size) = some 32 := by kernel_rfl
theorem info25 : (Try.prog.info? 25).map (·.size) = some 12 := by kernel_rfl

set_option maxHeartbeats 1600000 in
theorem xor_any (key nonce : Nat → Int) (c : Int) (a : Option Addr) (n ca : Nat) (f : Nat → Int) (w : World) (hn : n ≤ 1000000) (hc0 : 0 ≤ c) (hc1 : c < 4294967296) (hf : BytesAt w a n f) :
    Calls Try.prog 12 #[.agg (u8s (upTo 32 key)).toArray, .int .u32 c, .agg (u8s (upTo 12 nonce)).toArray, .slice a n ca] w fun e w' =>
      e = .returned (.slice (some ⟨w.heap.size + 2, 0, none⟩) n n) ∧ w'.ownsRow w.heap.size 5 1 (.slice (some ⟨w.heap.size + 2, 0, none⟩) n n) n (u8s (upTo n (xorF key c nonce f))) ∧ Below w.heap.size w w' := by
  obtain ⟨i0, hi, hz0, hz1, hz2⟩ := info_parts info5
  have Hlt := Lib.hid hf.lt
  have Hf := Lib.hid hf
  clear hf
  go_enter Try.func12, Try.ntmps12
  go_wp2_with (at_make; refine wpList_make_full _ rfl _ _ 26 rfl w.heap.size 5 i0 (.int .u8 0) 1 Try.underlying26 hi hz0 hz1 .i64 .i64 _ _ n rfl rfl (by omega) (by omega) (by rw [hz2]; omega) (by unfold maxLen; omega) (by simp; omega) ?_; intro w1 hown hg)
  have hkey1 : w1.heap[w.heap.size]? = some (.cells (u8s (upTo 32 key)).toArray 23 (0, 0)) := by
    rw [hg.block _ (by simp; omega) (by simp)]; exact heap_alloc2_old _ _ _
  have hnon1 : w1.heap[w.heap.size + 1]? = some (.cells (u8s (upTo 12 nonce)).toArray 25 (0, 0)) := by
    rw [hg.block _ (by simp) (by simp)]; exact heap_alloc2_new _ _ _
  have hb1 : Below w.heap.size w w1 := (((Below.refl _ w).alloc (Nat.le_refl _) _).alloc (by simp) _).grown hg (by simp; omega) (fun k hk => by cases hk)
  rw [made_zeros n (xorF key c nonce f)] at hown
  simp only [World.size_alloc] at hown
  have HK := Lib.hid hkey1
  have HN := Lib.hid hnon1
  have Hown := Lib.hid hown
  have Hsz := Lib.hid hg.size
  clear hkey1 hnon1 hg hown
  go_loopw [1, 10] (fun ct fr wr => ∃ k r : Nat, r = 64 * k ∧ r < n + 64 ∧ fr = .int .i64 r ∧ ct = .int .u32 ((c + k) % 4294967296) ∧
      wr.ownsRow w.heap.size 5 1 (.slice (some ⟨w.heap.size + 1 + 1, 0, none⟩) n n) n (u8s (upTo n (mixF r (xorF key c nonce f)))) ∧ Below w.heap.size w wr ∧ w.heap.size + 3 ≤ wr.heap.size ∧
      wr.heap[w.heap.size]? = some (.cells (u8s (upTo 32 key)).toArray 23 (0, 0)) ∧ wr.heap[w.heap.size + 1]? = some (.cells (u8s (upTo 12 nonce)).toArray 25 (0, 0))) (fun _ fr _ => n + 64 - (intOf fr).toNat)
  case atStart => exact ⟨0, 0, rfl, by omega, rfl, by simp; omega, Hown.out, hb1, by have := Hown.out.lt _ rfl; simp at this; omega, HK.out, HN.out⟩
  case round =>
    obtain ⟨k, r, hr, hrn, rfl, rfl, hown, hb, hsz, hkey, hnon⟩ := hrel
    have Hr := Lib.hid hr
    clear hr
    by_cases hlt : r < n
    · have hck : ∀ K : Nat, 0 ≤ (c + K) % 4294967296 ∧ (c + K) % 4294967296 < 4294967296 := fun K => ⟨by omega, by omega⟩
      obtain ⟨hk0, hk1⟩ := hck k
      have Hck := Lib.hid hck
      clear hck
      obtain ⟨cc, hcc⟩ : ∃ cc, cc = (c + k) % 4294967296 := ⟨_, rfl⟩
      rw [← hcc] at hk0 hk1 ⊢
      have Hcc := Lib.hid hcc
      clear hcc
      go_wp2_with (first
        | (refine wpList_load_row rfl 23 _ rfl w.heap.size rfl 23 (u8s (upTo 32 key)).toArray (0, 0) _ hkey Try.underlying23 rfl info23 ?_)
        | (refine wpList_load_row rfl 25 _ rfl (w.heap.size + 1) rfl 25 (u8s (upTo 12 nonce)).toArray (0, 0) _ hnon Try.underlying25 rfl info25 ?_)
        | (go_at_call 9; refine (block_any key cc nonce _).mono ?_; rintro e w2 ⟨rfl, hb2⟩)
        | (refine wpList_store_ints rfl 28 _ _ rfl rfl w2.heap.size rfl .u8 (blockL key cc nonce) rfl 28 (List.replicate 64 0) (heap_alloc_new w2 _) (by rw [blockL_length]; rfl) (by rw [blockL_length]; exact info28) ?_; intro w3 hu))
      have hb23 : Below w2.heap.size w2 w3 := ((Below.refl _ w2).alloc (Nat.le_refl _) _).trans (WUpd.below hu)
      have hb3 : Below wr.heap.size wr w3 := hb2.trans (hb23.mono hb2.size)
      have hS := hu.here
      have hsz3 : w2.heap.size < w3.heap.size := by have := hu.size; simp at this; omega
      have hsz2 := hb2.size
      have hown3 := hown.kept (below_grown hb3) (.inr (by simp [Value.ownBlock]))
      have hkey3 := (hb3.block w.heap.size (by omega)).trans hkey
      have hnon3 := (hb3.block (w.heap.size + 1) (by omega)).trans hnon
      have hbw3 := hb.trans (hb3.mono (by omega))
      clear hown hkey hnon hb hb2 hb23 hb3 hu
      obtain ⟨wo, rfl⟩ : ∃ wo : World, wo = wr := ⟨_, rfl⟩
      have HS := Lib.hid hS
      have HK3 := Lib.hid hkey3
      have HN3 := Lib.hid hnon3
      have Hown3 := Lib.hid hown3
      clear hS hkey3 hnon3 hown3
      go_loopw [12] (fun i wi => ∃ j : Nat, j ≤ 64 ∧ r + j ≤ n ∧ i = .int .i64 (r + j) ∧
          wi.ownsRow w.heap.size 5 1 (.slice (some ⟨w.heap.size + 1 + 1, 0, none⟩) n n) n (u8s (upTo n (mixF (r + j) (xorF key c nonce f)))) ∧ Below w.heap.size w wi ∧ w2.heap.size < wi.heap.size ∧
          wi.heap[w.heap.size]? = some (.cells (u8s (upTo 32 key)).toArray 23 (0, 0)) ∧ wi.heap[w.heap.size + 1]? = some (.cells (u8s (upTo 12 nonce)).toArray 25 (0, 0)) ∧
          wi.heap[w2.heap.size]? = some (.cells ((blockL key cc nonce).map (Value.int .u8)).toArray 28 (0, 0))) (fun i _ => n + 64 - (intOf i).toNat)
      case atStart => exact ⟨0, by omega, by omega, by simp, Hown3.out, hbw3, hsz3, HK3.out, HN3.out, HS.out⟩
      case round =>
        obtain ⟨j, hj, hjn, rfl, howni, hbi, hszi, hki, hni, hSi⟩ := hrel
        by_cases hlt2 : j < 64 ∧ r + j < n
        · obtain ⟨hj1, hj2⟩ := hlt2
          obtain ⟨bb, off, rfl, hcell⟩ : ∃ bb off, a = some ⟨bb, off, none⟩ ∧ wr.cell? ⟨bb, off + (r + j), none⟩ = some (.int .u8 (f (r + j))) := by
            rcases Hf.out.below hbi Hlt.out with h | ⟨b, off, rfl, h⟩
            · omega
            · exact ⟨b, off, rfl, h (r + j) hj2⟩
          obtain ⟨fj, hfj⟩ : ∃ fj, fj = f (r + j) := ⟨_, rfl⟩
          obtain ⟨sj, hsj⟩ : ∃ sj, sj = (blockL key cc nonce).getD j 0 := ⟨_, rfl⟩
          obtain ⟨oj, hoj⟩ : ∃ oj, oj = mixF (r + j) (xorF key c nonce f) (r + j) := ⟨_, rfl⟩
          rw [← hfj] at hcell
          have hv : bits .xor .u8 fj sj = xorF key c nonce f (r + j) := by rw [hfj, hsj]; exact xorF_at Hr.out hj1 Hcc.out
          have hsc : wr.cell? ⟨w2.heap.size, j, none⟩ = some (.int .u8 sj) := by
            rw [cell_of_row _ _ _ _ _ _ hSi, hsj]
            simp [List.getD, List.getElem?_eq_getElem (show j < (blockL key cc nonce).length by rw [blockL_length]; omega)]
          have hoc : wr.cell? ⟨w.heap.size + 1 + 1, r + j, none⟩ = some (.int .u8 oj) := by
            rw [howni.cellAt (r + j) (by omega), u8s_get _ _ _ hj2, hoj]
          have HV := Lib.hid hv
          clear hfj hsj hoj hv
          have hof := howni.frozenAt (r + j)
          have Hi := Lib.hid howni
          have Hbi := Lib.hid hbi
          have Hki := Lib.hid hki
          have Hni := Lib.hid hni
          have HSi := Lib.hid hSi
          clear howni hbi hki hni hSi
          go_wp2
          all_goals
            have e0 : 0 ≤ (r : Int) + (j : Int) := by omega
            have e1 : (r : Int) + (j : Int) < (n : Int) := by omega
            have e2 : ((r : Int) + (j : Int)).toNat = r + j := by omega
            have e3 : IntKind.i64.wrap ((r : Int) + (j : Int) - (r : Int)) = (j : Int) := by rw [IntKind.wrap_i64]; omega
            have e4 : (j : Int) < 64 := by omega
            go_still_tail 13, (by kernel_rfl)
            go_wp2
            go_roundw
            case rel =>
              exact ⟨j + 1, by omega, by omega, by go_num, by
                have := (Hi.out.drew.stored (r + j) (.int .u8 (xorF key c nonce f (r + j)))).1
                rw [mixF_set, ← HV.out] at this
                exact this, Hbi.out.drew.setCell (by simp; omega) _, by simpa using hszi,
                by rw [heap_drew, heap_setCell_other _ _ _ _ (by show _ ≠ w.heap.size + 1 + 1; omega)]; exact Hki.out, by rw [heap_drew, heap_setCell_other _ _ _ _ (by show _ ≠ w.heap.size + 1 + 1; omega)]; exact Hni.out, by rw [heap_drew, heap_setCell_other _ _ _ _ (by show _ ≠ w.heap.size + 1 + 1; omega)]; exact HSi.out⟩
            case measure => simp [intOf]; omega
        · have hex : ¬ ((r : Int) + (j : Int) < min ((r : Int) + 64) (n : Int)) := by omega
          have HE := Lib.hid hlt2
          clear hlt2
          have Hi := Lib.hid howni
          have Hbi := Lib.hid hbi
          have Hki := Lib.hid hki
          have Hni := Lib.hid hni
          have HSi := Lib.hid hSi
          clear howni hbi hki hni hSi
          have Hc2 : Hid ((cc + 1) % 4294967296 = (c + (k + 1 : Nat)) % 4294967296) := by
            have h := Hcc.out
            show (cc + 1) % 4294967296 = (c + (k + 1 : Nat)) % 4294967296
            rw [h]
            omega
          have Hr2 : Hid (r + 64 = 64 * (k + 1)) := by
            have h := Hr.out
            show r + 64 = 64 * (k + 1)
            omega
          go_wp2
          all_goals
            go_roundw
            case rel =>
              exact ⟨k + 1, r + 64, Hr2.out, by omega, by go_num, by rw [Hc2.out], by rw [← mixF_end _ HE.out hj hjn]; exact Hi.out, Hbi.out, by omega, Hki.out, Hni.out⟩
            case measure => simp [intOf]; omega
    · have hge : n ≤ r := by omega
      have HX := Lib.hid (mixF_all (xorF key c nonce f) hge)
      have Hi := Lib.hid hown
      clear hown
      go_wp2
      go_ret
      exact ⟨rfl, by rw [← HX.out]; exact Hi.out, hb⟩
end Go.Proofs.Ytkdclndbnmhbfaa
