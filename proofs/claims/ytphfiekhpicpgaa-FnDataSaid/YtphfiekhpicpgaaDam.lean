/- Contract: a text damaged at one place. No condition. -/
import Derived.Test.YtphfiekhpicpgaaRows
import Derived.Test.YtphfiekhpicpgaaSrcX
import Derived.Test.YtphfiekhpicpgaaDrawF
set_option linter.unusedVariables false
namespace Go.Proofs.Ytphfiekhpicpgaa
open Go.RowKit
theorem SrcAt.grown {w w' : World} {B g n t : Nat} {x : Int} {row : Option Nat} (h : SrcAt w B g n t x) (hb : w.grownBy w' row) (hne : some g ≠ row) (hr : ∀ k, row = some k → B ≤ k) : SrcAt w' B g n t x :=
  h.keep (below_grown (Below.refl B w) hb (Nat.le_of_lt (Nat.lt_of_le_of_lt h.src.1 h.src.lt)) hr) (hb.block g h.src.lt hne)
theorem SrcAt.drewN {w : World} {B g n t : Nat} {x : Int} (h : SrcAt w B g n t x) (k : Nat) : SrcAt (w.drewN k) B g n t x := h
theorem SrcAt.alloc {w : World} {B g n t : Nat} {x : Int} (h : SrcAt w B g n t x) (o : Obj) : SrcAt (w.alloc o) B g n t x := h.grown (alloc_grown w o none) (fun e => by cases e) (fun k e => by cases e)
theorem iter_three (F : Nat → Nat) (x : Nat) : Lcg.iter F 3 x = F (F (F x)) := rfl
theorem iter_one (F : Nat → Nat) (x : Nat) : Lcg.iter F 1 x = F x := rfl
theorem itf_three {x y z v : Nat} (h1 : Lcg.f x = y) (h2 : Lcg.f y = z) (h3 : Lcg.f z = v) : Lcg.itf 3 x = v := by
  unfold Lcg.itf
  rw [iter_three, h1, h2, h3]
theorem itf_one {x y : Nat} (h1 : Lcg.f x = y) : Lcg.itf 1 x = y := by
  unfold Lcg.itf
  rw [iter_one, h1]
/-- The signs that are put in: each of one byte. -/
def signsV : Array Value := #[.string ⟨#[48]⟩, .string ⟨#[49]⟩, .string ⟨#[55]⟩, .string ⟨#[57]⟩, .string ⟨#[97]⟩, .string ⟨#[102]⟩, .string ⟨#[103]⟩, .string ⟨#[65]⟩, .string ⟨#[45]⟩, .string ⟨#[47]⟩, .string ⟨#[59]⟩, .string ⟨#[58]⟩, .string ⟨#[44]⟩, .string ⟨#[32]⟩, .string ⟨#[124]⟩, .string ⟨#[10]⟩]
theorem signs_at : ∀ i : Nat, i < 16 → ∃ c : ByteArray, signsV[i]? = some (.string c) ∧ c.size = 1
  | 0, _ => ⟨_, rfl, rfl⟩
  | 1, _ => ⟨_, rfl, rfl⟩
  | 2, _ => ⟨_, rfl, rfl⟩
  | 3, _ => ⟨_, rfl, rfl⟩
  | 4, _ => ⟨_, rfl, rfl⟩
  | 5, _ => ⟨_, rfl, rfl⟩
  | 6, _ => ⟨_, rfl, rfl⟩
  | 7, _ => ⟨_, rfl, rfl⟩
  | 8, _ => ⟨_, rfl, rfl⟩
  | 9, _ => ⟨_, rfl, rfl⟩
  | 10, _ => ⟨_, rfl, rfl⟩
  | 11, _ => ⟨_, rfl, rfl⟩
  | 12, _ => ⟨_, rfl, rfl⟩
  | 13, _ => ⟨_, rfl, rfl⟩
  | 14, _ => ⟨_, rfl, rfl⟩
  | 15, _ => ⟨_, rfl, rfl⟩
  | n + 16, h => absurd h (by omega)
set_option maxRecDepth 100000 in
set_option maxHeartbeats 800000 in
theorem l01Damage {w : World} {B g n t : Nat} {h : Int} (hS : SrcAt w B g n t h) (s : ByteArray) (hs : s.size ≤ 8000000000) :
    Calls Try.prog 67 #[.pointer (some ⟨g, 0, none⟩), .string s] w fun e w' => ∃ s' : ByteArray, e = .returned (.string s') ∧ s'.size ≤ s.size + 1 ∧ (∃ t' x, SrcAt w' B g n t' x ∧ t ≤ t' ∧ (t = n → (s.size = 0 ∧ x = ((Lcg.itf 1 (st h) : Nat) : Int)) ∨ (0 < s.size ∧ x = ((Lcg.itf 3 (st h) : Nat) : Int)))) ∧ w.grownBy w' (some g) := by
  have hgl := hS.src.lt
  have S := Lib.hid hS
  clear hS
  go_enter Try.func67, Try.ntmps67
  go_upto_region 2 with fail
  obtain ⟨w1, hw1⟩ : ∃ w1, w1 = w.alloc (.cells signsV 9) := ⟨_, rfl⟩
  have K := Blk.new w 9 signsV
  have S1 := S.out.alloc (.cells signsV 9)
  have G := alloc_grown w (.cells signsV 9) (some g)
  rw [← hw1] at K S1 G
  unfold signsV at hw1
  rw [← hw1]
  clear hw1 S
  replace K := Lib.hid K
  replace S1 := Lib.hid S1
  replace G := Lib.hid G
  go_wp2_with fail
  refine (l01NextX S1.out 16 (by omega) (by omega)).mono ?_
  rintro e wx ⟨i, hi, rfl, ⟨t1, hs1, ht1⟩, hg1⟩
  replace K := Lib.hid (K.out.grown hg1 (fun e => by injection e; omega))
  replace G := Lib.hid (G.out.trans hg1)
  have hle1 := hs1.le
  have S2 := Lib.hid hs1
  have T1 : t ≤ t1 := by omega
  clear S1 hs1 hg1 ht1
  obtain ⟨c, hc, hc1⟩ := signs_at i hi
  have cc := (K.out.cell i).trans hc
  have hii : (i : Int) < 16 := by omega
  clear K hc
  obtain ⟨x1, hx1⟩ : ∃ x1 : Nat, Lcg.f (st h) = x1 := ⟨_, rfl⟩
  have hx1l : x1 < 2 ^ 64 := by rw [← hx1]; exact Lcg.f_lt _
  have hst1 := st_nat x1 hx1l
  rw [hx1] at S2
  have HX1 := Lib.hid hx1
  have HST1 := Lib.hid hst1
  clear hx1 hst1 hx1l
  by_cases h0 : s.size = 0
  · have hz : (s.size : Int) = 0 := by omega
    go_wp2_with fail
    go_ret
    exact ⟨c, rfl, by omega, ⟨t1, _, S2.out, T1, fun _ => .inl ⟨h0, by rw [itf_one HX1.out]⟩⟩, G.out⟩
  · have h0' := Lib.hid h0
    obtain ⟨L, hL⟩ : ∃ L, s.size = L := ⟨_, rfl⟩
    rw [hL] at hs h0
    have hz : ((L : Int) == 0) = false := by rw [beq_eq_false_iff_ne]; omega
    have HL0 := Lib.hid (show 0 < L by omega)
    clear h0
    go_wp2_with fail
    refine (l01NextX S2.out L HL0.out (by omega)).mono ?_
    rintro e wy ⟨k, hk, rfl, ⟨t2, hs2, ht2⟩, hg2⟩
    replace G := Lib.hid (G.out.trans hg2)
    have hle2 := hs2.le
    have S3 := Lib.hid hs2
    have T2 : t ≤ t2 := by omega
    clear S2 hs2 hg2 ht2 hz
    rw [HST1.out] at S3
    obtain ⟨x2, hx2⟩ : ∃ x2 : Nat, Lcg.f x1 = x2 := ⟨_, rfl⟩
    have hx2l : x2 < 2 ^ 64 := by rw [← hx2]; exact Lcg.f_lt _
    have hst2 := st_nat x2 hx2l
    rw [hx2] at S3
    have HX2 := Lib.hid hx2
    have HST2 := Lib.hid hst2
    clear hx2 hst2 hx2l
    go_wp2_with fail
    refine (l01NextX S3.out 3 (by omega) (by omega)).mono ?_
    rintro e wz ⟨z, hz, rfl, ⟨t3, hs3, ht3⟩, hg3⟩
    replace G := Lib.hid (G.out.trans hg3)
    have hle3 := hs3.le
    have S4 := Lib.hid hs3
    have T3 : t ≤ t3 := by omega
    clear S3 hs3 hg3 ht3
    rw [HST2.out] at S4
    obtain ⟨x3, hx3⟩ : ∃ x3 : Nat, Lcg.f x2 = x3 := ⟨_, rfl⟩
    rw [hx3] at S4
    have E3 := Lib.hid (itf_three HX1.out HX2.out hx3)
    clear hx3
    have hki : (k : Int) < (L : Int) := by omega
    have hk0 : (0 : Int) ≤ (k : Int) := by omega
    obtain rfl | rfl | rfl : z = 0 ∨ z = 1 ∨ z = 2 := by omega
    · go_upto_region 8 with fail
      go_quiet (fail)
      go_wp2
      go_ret
      exact ⟨_, rfl, by rw [hL]; simp only [ByteArray.size_append, ByteArray.size_extract, hc1, hL]; omega, ⟨t3, _, S4.out.drewN _, T3, fun _ => .inr ⟨by rw [hL]; exact HL0.out, by rw [E3.out]⟩⟩, grown_drewN G.out _⟩
    · go_upto_region 10 with fail
      go_quiet (fail)
      go_wp2
      go_ret
      exact ⟨_, rfl, by rw [hL]; simp only [ByteArray.size_append, ByteArray.size_extract, hL]; omega, ⟨t3, _, S4.out.drewN _, T3, fun _ => .inr ⟨by rw [hL]; exact HL0.out, by rw [E3.out]⟩⟩, grown_drewN G.out _⟩
    · go_upto_region 11 with fail
      go_quiet (fail)
      go_wp2
      go_ret
      exact ⟨_, rfl, by rw [hL]; simp only [ByteArray.size_append, ByteArray.size_extract, hc1, hL]; omega, ⟨t3, _, S4.out.drewN _, T3, fun _ => .inr ⟨by rw [hL]; exact HL0.out, by rw [E3.out]⟩⟩, grown_drewN G.out _⟩
end Go.Proofs.Ytphfiekhpicpgaa
