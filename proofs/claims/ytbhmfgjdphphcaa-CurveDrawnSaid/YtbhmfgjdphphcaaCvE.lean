/-
  Both ladders over numbers of sixteen parts are the ladder modulo the modulus. Conditions: operations that are right by value.
-/
import Derived.Test.YtbhmfgjdphphcaaCvD
import Derived.Test.YtbhmfgjdphphcaaCrvK
import Derived.Test.YtbhmfgjdphphcaaCgM
namespace Go.Proofs.Ytbhmfgjdphphcaa
open Go Go.SX

abbrev tv (a : Nat → Int) : Fp := tf (V16 a)
theorem V16_K (a : Nat → Int) : V16 (K 16 a) = V16 a := gv_congr _ _ _ 16 fun i hi => K_at 16 a i hi
theorem okN_K {M : Int} {a : Nat → Int} (h : okN M a) : okN M (K 16 a) := fun i hi => by rw [K_at 16 a i hi]; exact h i hi
theorem tgt_ok {a : Nat → Int} (h : tgt a) : okN 131072 a := fun i hi => by have := h i hi; omega
theorem okN_mono {M N : Int} {a : Nat → Int} (h : okN M a) (hM : M ≤ N) : okN N a := fun i hi => by have := h i hi; omega

section
variable {AD SB ML : F2} (hA : AddOK AD) (hS : SubOK SB) (hM : MulOK ML)
include hA in
theorem mk_add {a b : Nat → Int} (ha : tgt a) (hb : tgt b) : okN 262144 (mk AD a b) ∧ tv (mk AD a b) = tv a + tv b := by
  have h := hA (K 16 a) (K 16 b) (okN_K (tgt_ok ha)) (okN_K (tgt_ok hb))
  rw [V16_K, V16_K] at h
  exact h
include hS in
theorem mk_sub {a b : Nat → Int} (ha : tgt a) (hb : tgt b) : okN 262144 (mk SB a b) ∧ tv (mk SB a b) = tv a - tv b := by
  have h := hS (K 16 a) (K 16 b) (okN_K (tgt_ok ha)) (okN_K (tgt_ok hb))
  rw [V16_K, V16_K] at h
  exact h
include hM in
theorem mk_mul {a b : Nat → Int} (ha : okN 262144 a) (hb : okN 262144 b) : tgt (mk ML a b) ∧ tv (mk ML a b) = tv a * tv b := by
  have h := hM (K 16 a) (K 16 b) (okN_K ha) (okN_K hb)
  rw [V16_K, V16_K] at h
  exact h

/-- Parts that are tight, and stand for those numbers. -/
def Is (q : Q4) (s : QF) : Prop := (tgt q.a ∧ tv q.a = s.a) ∧ (tgt q.b ∧ tv q.b = s.b) ∧ (tgt q.c ∧ tv q.c = s.c) ∧ (tgt q.d ∧ tv q.d = s.d)
theorem sel_is (s : Bool) (A B : Nat → Int) (hA : tgt A) (hB : tgt B) : tgt (sel s A B) ∧ tv (sel s A B) = bif s then tv B else tv A := by
  cases s with
  | false =>
    refine ⟨fun i hi => ?_, ?_⟩
    · show -38 ≤ K 16 A i ∧ K 16 A i ≤ 65573
      rw [K_at 16 A i hi]; exact hA i hi
    · exact congrArg tf (gv_congr _ _ _ 16 fun i hi => K_at 16 A i hi)
  | true =>
    refine ⟨fun i hi => ?_, ?_⟩
    · show -38 ≤ K 16 B i ∧ K 16 B i ≤ 65573
      rw [K_at 16 B i hi]; exact hB i hi
    · exact congrArg tf (gv_congr _ _ _ 16 fun i hi => K_at 16 B i hi)
theorem swap_is {q : Q4} {s : QF} (t : Bool) (h : Is q s) : Is (swap4 t q) (swpF t s) := by
  obtain ⟨⟨a1, a2⟩, ⟨b1, b2⟩, ⟨c1, c2⟩, ⟨d1, d2⟩⟩ := h
  cases t with
  | false =>
    refine ⟨?_, ?_, ?_, ?_⟩
    · have := sel_is false q.a q.b a1 b1; exact ⟨this.1, this.2.trans a2⟩
    · have := sel_is false q.b q.a b1 a1; exact ⟨this.1, this.2.trans b2⟩
    · have := sel_is false q.c q.d c1 d1; exact ⟨this.1, this.2.trans c2⟩
    · have := sel_is false q.d q.c d1 c1; exact ⟨this.1, this.2.trans d2⟩
  | true =>
    refine ⟨?_, ?_, ?_, ?_⟩
    · have := sel_is true q.a q.b a1 b1; exact ⟨this.1, this.2.trans b2⟩
    · have := sel_is true q.b q.a b1 a1; exact ⟨this.1, this.2.trans a2⟩
    · have := sel_is true q.c q.d c1 d1; exact ⟨this.1, this.2.trans d2⟩
    · have := sel_is true q.d q.c d1 c1; exact ⟨this.1, this.2.trans c2⟩

include hA hS hM in
theorem round_is {by_ x : Nat → Int} (hby : okN 262144 by_) (hbv : tv by_ = 121665) (hx : tgt x) {q : Q4} {s : QF} (h : Is q s) : Is (roundF AD SB ML by_ x q) (rndF (tv x) s) := by
  obtain ⟨⟨a1, a2⟩, ⟨b1, b2⟩, ⟨c1, c2⟩, ⟨d1, d2⟩⟩ := h
  have e := mk_add hA a1 c1
  have A1 := mk_sub hS a1 c1
  have C1 := mk_add hA b1 d1
  have B1 := mk_sub hS b1 d1
  have D1 := mk_mul hM e.1 e.1
  have F := mk_mul hM A1.1 A1.1
  have A2 := mk_mul hM C1.1 A1.1
  have C2 := mk_mul hM B1.1 e.1
  have E2 := mk_add hA A2.1 C2.1
  have A3 := mk_sub hS A2.1 C2.1
  have B2 := mk_mul hM A3.1 A3.1
  have C3 := mk_sub hS D1.1 F.1
  have X := mk_mul hM C3.1 hby
  have A4 := mk_add hA X.1 D1.1
  have Ra := mk_mul hM (okN_mono (tgt_ok D1.1) (by decide)) (okN_mono (tgt_ok F.1) (by decide : (131072 : Int) ≤ 262144))
  have Rb := mk_mul hM E2.1 E2.1
  have Rc := mk_mul hM C3.1 A4.1
  have Rd := mk_mul hM (okN_mono (tgt_ok B2.1) (by decide)) (okN_mono (tgt_ok hx) (by decide : (131072 : Int) ≤ 262144))
  refine ⟨⟨Ra.1, Ra.2.trans ?_⟩, ⟨Rb.1, Rb.2.trans ?_⟩, ⟨Rc.1, Rc.2.trans ?_⟩, ⟨Rd.1, Rd.2.trans ?_⟩⟩
  · rw [D1.2, F.2, e.2, A1.2, a2, c2]; rfl
  · rw [E2.2, A2.2, C2.2, C1.2, A1.2, B1.2, e.2, a2, b2, c2, d2]; rfl
  · rw [A4.2, X.2, C3.2, D1.2, F.2, e.2, A1.2, hbv, a2, c2]; rfl
  · rw [B2.2, A3.2, A2.2, C2.2, C1.2, A1.2, B1.2, e.2, a2, b2, c2, d2]; rfl

theorem one_is : tgt (at_ oneL) ∧ tv (at_ oneL) = 1 := by
  refine ⟨?_, ?_⟩
  · have : ∀ j : Fin 16, -38 ≤ at_ oneL j.val ∧ at_ oneL j.val ≤ 65573 := by decide +kernel
    exact fun i hi => this ⟨i, hi⟩
  · decide +kernel
theorem nil_is : tgt (fun _ => 0) ∧ tv (fun _ => 0) = 0 := ⟨fun _ _ => by show (-38 : Int) ≤ 0 ∧ (0 : Int) ≤ 65573; decide, by decide +kernel⟩
theorem byL_is : okN 262144 (at_ byL) ∧ tv (at_ byL) = 121665 := by
  refine ⟨?_, ?_⟩
  · have : ∀ j : Fin 16, -262144 ≤ at_ byL j.val ∧ at_ byL j.val ≤ 262144 := by decide +kernel
    exact fun i hi => this ⟨i, hi⟩
  · decide +kernel
theorem smallL_is : okN 262144 (at_ smallL) ∧ tv (at_ smallL) = 121665 := by
  refine ⟨?_, ?_⟩
  · have : ∀ j : Fin 16, -262144 ≤ at_ smallL j.val ∧ at_ smallL j.val ≤ 262144 := by decide +kernel
    exact fun i hi => this ⟨i, hi⟩
  · decide +kernel
include hA hS hM in
theorem lad_is {by_ x : Nat → Int} (hby : okN 262144 by_) (hbv : tv by_ = 121665) (hx : tgt x) (bit : Nat → Bool) (k : Nat) : Is (LD AD SB ML by_ x bit k) (ladF (tv x) bit k) := by
  induction k with
  | zero => exact ⟨one_is, ⟨hx, rfl⟩, nil_is, one_is⟩
  | succ k ih => exact swap_is _ (round_is hA hS hM hby hbv hx (swap_is _ ih))

/-- The exponent behind k rounds. -/
def exP : Nat → Nat
  | 0 => 1
  | k + 1 => bif k == 251 || k == 249 then 2 * exP k else 2 * exP k + 1
theorem exP_all : exP 254 = Pn - 2 := by decide +kernel
include hM in
theorem inv_is {a : Nat → Int} (ha : tgt a) (k : Nat) : tgt (IV ML a k) ∧ tv (IV ML a k) = pwF (tv a) (exP k) := by
  induction k with
  | zero => exact ⟨ha, (pwF_one _).symm⟩
  | succ k ih =>
    obtain ⟨h1, h2⟩ := ih
    have w := okN_mono (tgt_ok h1) (by decide : (131072 : Int) ≤ 262144)
    have sq := mk_mul hM w w
    have wa := okN_mono (tgt_ok ha) (by decide : (131072 : Int) ≤ 262144)
    have sm := mk_mul hM (okN_mono (tgt_ok sq.1) (by decide : (131072 : Int) ≤ 262144)) wa
    show tgt (bif k == 251 || k == 249 then mk ML (IV ML a k) (IV ML a k) else mk ML (mk ML (IV ML a k) (IV ML a k)) a) ∧
      tv (bif k == 251 || k == 249 then mk ML (IV ML a k) (IV ML a k) else mk ML (mk ML (IV ML a k) (IV ML a k)) a) = pwF (tv a) (bif k == 251 || k == 249 then 2 * exP k else 2 * exP k + 1)
    cases (k == 251 || k == 249) with
    | true =>
      rw [cond_true, cond_true]
      exact ⟨sq.1, by rw [sq.2, h2, ← pwF_add, Nat.two_mul]⟩
    | false =>
      rw [cond_false, cond_false]
      exact ⟨sm.1, by rw [sm.2, sq.2, h2, pwF_add, pwF_one, Nat.two_mul, pwF_add]⟩
include hM in
theorem inv_at {a : Nat → Int} (ha : tgt a) : tgt (IV ML a 254) ∧ tv (IV ML a 254) = inv (tv a) := by
  have h := inv_is hM ha 254
  rw [exP_all] at h
  exact h

/-- A number's bytes. -/
def bytesOf (x : Fp) : Nat → Int := fun i => dig 256 (x.val : Int) i
/-- The number that bytes tell, but for the last bit. -/
def rdF (u : Nat → Int) : Fp := tf (gv 256 u 32 % 57896044618658097711785492504343953926634992332820282019728792003956564819968)
def WrOK (WR : F1) : Prop := ∀ a, tgt a → ∀ i, i < 32 → WR a i = bytesOf (tv a) i
def RdOK (RD : F1) : Prop := ∀ u, (∀ i, i < 32 → 0 ≤ u i ∧ u i ≤ 255) → tgt (RD u) ∧ tv (RD u) = rdF u
include hA hS hM in
theorem out_is {IN RD WR : F1} (hI : ∀ a, IN a = IV ML a 254) (hR : RdOK RD) (hW : WrOK WR) {by_ u : Nat → Int} (hby : okN 262144 by_) (hbv : tv by_ = 121665) (hu : ∀ i, i < 32 → 0 ≤ u i ∧ u i ≤ 255) (bit : Nat → Bool) :
    upTo 32 (outM ML IN WR (LD AD SB ML by_ (RD u) bit 255)) = upTo 32 (bytesOf (ladX bit (rdF u))) := by
  obtain ⟨hx, hxv⟩ := hR u hu
  obtain ⟨⟨a1, a2⟩, _, ⟨c1, c2⟩, _⟩ := lad_is hA hS hM hby hbv hx bit 255
  rw [hxv] at a2 c2
  have hc := inv_at hM (fun i hi => by rw [K_at 16 _ i hi]; exact c1 i hi : tgt (K 16 (LD AD SB ML by_ (RD u) bit 255).c))
  have w : ∀ {a}, tgt a → okN 262144 a := fun h => okN_mono (tgt_ok h) (by decide)
  have m := mk_mul hM (w a1) (w hc.1)
  refine map_congr 32 _ _ fun i hi => ?_
  show WR (K 16 (mk ML (LD AD SB ML by_ (RD u) bit 255).a (IN (K 16 (LD AD SB ML by_ (RD u) bit 255).c)))) i = _
  rw [hI, hW _ (fun i hi => by rw [K_at 16 _ i hi]; exact m.1 i hi) i hi]
  have e : tv (K 16 (mk ML (LD AD SB ML by_ (RD u) bit 255).a (IV ML (K 16 (LD AD SB ML by_ (RD u) bit 255).c) 254))) = ladX bit (rdF u) := by
    show tf (V16 (K 16 _)) = _
    rw [V16_K]
    have := m.2
    show tv (mk ML _ _) = _
    rw [this, hc.2, a2]
    show _ * inv (tf (V16 (K 16 _))) = _
    rw [V16_K]
    show _ * inv (tv _) = _
    rw [c2]
    rfl
  rw [e]
end
end Go.Proofs.Ytbhmfgjdphphcaa
