/- Contract: the drawing of a text, damaged again and again until a number is not divisible by 3: it ends. No condition. -/
import Derived.Test.YtphfiekhpicpgaaRows
import Derived.Test.YtphfiekhpicpgaaDrawD
import Derived.Test.YtphfiekhpicpgaaDam
import Derived.Test.YtphfiekhpicpgaaLcgR
import Derived.Test.YtphfiekhpicpgaaHex
set_option linter.unusedVariables false
namespace Go.Proofs.Ytphfiekhpicpgaa
open Go.RowKit Plain
def muS (left : Nat → Nat) (g n : Nat) (wr : World) : Nat :=
  match wr.cell? ⟨g, 1, none⟩, wr.cell? ⟨g, 2, none⟩ with
  | some (.int _ t), some (.int _ h) => (n - t.toNat) + (if t.toNat = n then left (st h) else 4000000000000000001)
  | _, _ => 0
theorem muS_eq {left : Nat → Nat} {wr : World} {B g n t : Nat} {h : Int} (hs : SrcAt wr B g n t h) : muS left g n wr = (n - t) + (if t = n then left (st h) else 4000000000000000001) := by
  obtain ⟨_, a, cap, b, hk, _, _, _⟩ := hs
  have c1 : wr.cell? ⟨g, 1, none⟩ = some (.int .i64 (t : Int)) := hk.cell 1
  have c2 : wr.cell? ⟨g, 2, none⟩ = some (.int .u64 h) := hk.cell 2
  unfold muS
  rw [c1, c2]
  simp
theorem itf_two {x y : Nat} (n : Nat) (h : Lcg.f x = y) : Lcg.itf n y = Lcg.itf (n + 1) x := by
  unfold Lcg.itf
  rw [Lcg.iter_succ, h]
/-- What the text may come to. -/
def roomS (run : Nat → Nat) (n t : Nat) (h : Int) : Nat := (if t = n then run (st h) else 4000000000) + (n - t)
theorem room_le {run : Nat → Nat} (hr : ∀ x, x < 2 ^ 64 → run x ≤ 4000000000) (n t : Nat) (h : Int) (hn : n ≤ 4096) : roomS run n t h ≤ 4000004096 := by
  unfold roomS
  have := hr (st h) (st_lt h)
  split <;> omega
/-- One round: what is left falls, and the text stays in its room. -/
theorem round_facts {left run : Nat → Nat} (hl : ∀ x, x < 2 ^ 64 → left x ≤ 4000000000000000000) (hl2 : ∀ x y, x < 2 ^ 64 → Lcg.win (Lcg.f x) % 3 = 0 → (y = Lcg.itf 2 x ∨ y = Lcg.itf 4 x) → left y < left x)
    (hr : ∀ x, x < 2 ^ 64 → run x ≤ 4000000000) (hr2 : ∀ x, x < 2 ^ 64 → Lcg.win (Lcg.f x) % 3 = 0 → run x = run (Lcg.itf 4 x) + 1)
    {n t t1 t2 sz sz2 : Nat} {h h2 : Int} {x1 : Nat} (hx1 : Lcg.f (st h) = x1) (ht : t ≤ n) (ht1 : t1 ≤ n) (ht2 : t2 ≤ n) (hn : n ≤ 4096)
    (H1 : t1 = t + 1 ∨ (t = n ∧ t1 = t ∧ 0 = Lcg.win x1 % 3)) (h12 : t1 ≤ t2) (H2 : t1 = n → (sz = 0 ∧ h2 = ((Lcg.itf 1 x1 : Nat) : Int)) ∨ (0 < sz ∧ h2 = ((Lcg.itf 3 x1 : Nat) : Int))) (hsz : sz2 ≤ sz + 1)
    (hroom : sz + roomS run n t h ≤ 4000010000) :
    sz2 + roomS run n t2 h2 ≤ 4000010000 ∧ (n - t2) + (if t2 = n then left (st h2) else 4000000000000000001) < (n - t) + (if t = n then left (st h) else 4000000000000000001) := by
  have b2 := hl (st h2) (st_lt h2)
  have r2 := hr (st h2) (st_lt h2)
  rcases H1 with e | ⟨e1, e2, hw⟩
  · unfold roomS at hroom ⊢
    rw [if_neg (show ¬ t = n by omega)] at hroom
    rw [if_neg (show ¬ t = n by omega)]
    constructor
    · split <;> omega
    · split <;> omega
  · have e3 : t2 = n := by omega
    have hst := st_lt h
    have hwin : Lcg.win (Lcg.f (st h)) % 3 = 0 := by rw [hx1]; exact hw.symm
    unfold roomS at hroom ⊢
    rw [if_pos e1] at hroom
    simp only [if_pos e1, if_pos e3]
    have h64 : x1 < 2 ^ 64 := by rw [← hx1]; exact Lcg.f_lt _
    rcases H2 (by omega) with ⟨z0, ez⟩ | ⟨z0, ez⟩
    · have es : st h2 = Lcg.itf 2 (st h) := by rw [ez, st_nat _ (Lcg.itf_lt 1 x1 h64), itf_two 1 hx1]
      have := hl2 (st h) (st h2) hst hwin (.inl es)
      constructor <;> omega
    · have es : st h2 = Lcg.itf 4 (st h) := by rw [ez, st_nat _ (Lcg.itf_lt 3 x1 h64), itf_two 3 hx1]
      have := hl2 (st h) (st h2) hst hwin (.inr es)
      have r3 := hr2 (st h) hst hwin
      rw [← es] at r3
      constructor <;> omega
set_option maxRecDepth 100000 in
set_option maxHeartbeats 1600000 in
theorem drawBytesOf {a : Option Addr} {n cap : Nat} {b : Nat → UInt8} (w : World) (hs : ByteS w a n cap b) (hn : n ≤ 4096) :
    Calls Try.prog 22 #[.slice a n cap] w fun e w' => ∃ s : ByteArray, e = .returned (.string s) ∧ s.size ≤ 4000010000 ∧ Below w.heap.size w w' := by
  obtain ⟨left, hl, hl2⟩ := Lcg.exists_left
  obtain ⟨run, hr, hr2⟩ := Lcg.exists_run
  have l := Lib.hid (Below.refl w.heap.size w)
  replace hs := Lib.hid hs
  have HL := Lib.hid (And.intro hl hl2)
  have HR := Lib.hid (And.intro hr hr2)
  clear hl hl2 hr hr2
  go_enter Try.func22, Try.ntmps22
  go_wp2_with fail
  refine (l01From _ hs.out hn).mono ?_
  rintro e wx ⟨g, rfl, hS, hb⟩
  have hgB := hS.1
  replace l := carryS l hb
  have S := Lib.hid hS
  clear hb hs hS
  go_wp2_with fail
  refine (l01DrawBytes60 S.out).mono ?_
  rintro e wy ⟨v, rfl, ⟨L, hv, hL⟩, hS, hg⟩
  replace l := Lib.hid (below_grown l.out hg l.out.size (fun k hk => by injection hk with hk; omega))
  replace S := Lib.hid hS
  obtain ⟨⟨gv, cv, hve⟩, _⟩ := id hv
  subst hve
  have hby := (show RowF wy wx.heap.size 5 (.slice (some ⟨gv, 0, none⟩) L.length cv) L.length (byt (fun i => L.getD i 0)) from hv.rowF).byteS
  have hby := Lib.hid hby
  clear hS hg hv
  go_wp2_with fail
  refine (l01Hex _ hby.out (by omega)).mono ?_
  rintro e wz ⟨rfl, hb⟩
  have hS := S.out.below hb
  replace l := carryS l hb
  clear hb S hby
  obtain ⟨T, hT⟩ : ∃ T, hexS (fun i => L.getD i 0) L.length = T := ⟨_, rfl⟩
  have hTs : T.size ≤ 200 := by
    rw [← hT]
    show (hexL (fun i => L.getD i 0) L.length).toArray.size ≤ 200
    have := hexL_length (fun i => L.getD i 0) L.length
    rw [List.size_toArray, this]
    omega
  rw [hT]
  clear hT
  obtain ⟨m, t, h, hS⟩ := hS.at_
  have hm := hS.le.2
  have S := Lib.hid hS
  clear hS
  go_wp2_with fail
  go_loopw [4] (fun s wr => ∃ (txt : ByteArray) (t : Nat) (h : Int), s = .string txt ∧ SrcAt wr w.heap.size g m t h ∧ Below w.heap.size w wr ∧ txt.size + roomS run m t h ≤ 4000010000)
    (fun _ wr => muS left g m wr)
  case atStart => exact ⟨T, t, h, rfl, S.out, l.out, by have := room_le HR.out.1 m t h hm; omega⟩
  case round =>
    clear S l hTs
    obtain ⟨txt, t, h, rfl, hs, hb, hroom⟩ := hrel
    have hle := hs.le
    have hmu := Lib.hid (muS_eq (left := left) hs)
    have hg0 : w.heap.size ≤ g := hs.src.1
    have hsl : txt.size ≤ 8000000000 := by omega
    obtain ⟨sz, hsz⟩ : ∃ sz, txt.size = sz := ⟨_, rfl⟩
    have HZ := Lib.hid hsz
    have HROOM := Lib.hid hroom
    have HSL := Lib.hid hsl
    clear hroom hsz hsl
    have Hs := Lib.hid hs; clear hs; have Hb := Lib.hid hb; clear hb
    obtain ⟨wo, rfl⟩ : ∃ wo : World, wo = wr := ⟨_, rfl⟩
    go_wp2_with fail
    refine (l01NextX Hs.out 3 (by omega) (by omega)).mono ?_
    rintro e wx ⟨x, hx, rfl, ⟨t1, hs1, ht1⟩, hg1⟩
    have hle1 := hs1.le
    have B1 := Lib.hid (below_grown Hb.out hg1 Hb.out.size (fun k hk => by injection hk with hk; omega))
    have S1 := Lib.hid hs1
    have T1 := Lib.hid ht1
    clear hs1 ht1 hg1
    by_cases h0 : x = 0
    · subst h0
      go_wp2_with fail
      refine (l01Damage S1.out txt HSL.out).mono ?_
      rintro e wy ⟨s', rfl, hs', ⟨t2, h2, hs2, h12, H2⟩, hg2⟩
      have hle2 := hs2.le
      have B2 := Lib.hid (below_grown B1.out hg2 B1.out.size (fun k hk => by injection hk with hk; omega))
      obtain ⟨x1, hx1⟩ : ∃ x1, Lcg.f (st h) = x1 := ⟨_, rfl⟩
      have hx64 : x1 < 2 ^ 64 := by rw [← hx1]; exact Lcg.f_lt _
      have T2 := T1.out
      rw [hx1] at T2
      rw [hx1, st_nat x1 hx64] at H2
      have F := Lib.hid (round_facts HL.out.1 HL.out.2 HR.out.1 HR.out.2 hx1 hle.1 hle1.1 hle2.1 hle.2 T2 h12 H2 hs' HROOM.out)
      have M2 := Lib.hid (muS_eq (left := left) hs2)
      have S2 := Lib.hid hs2
      clear hs2 hg2 H2 T2 hx1 hx64 hs' h12
      go_wp2_with fail
      go_roundw
      case rel => exact ⟨s', t2, h2, rfl, S2.out, B2.out, F.out.1⟩
      case measure =>
        have := F.out.2
        rw [M2.out, hmu.out]
        exact this
    · have h1 : ¬ (x : Int) = 0 := by omega
      clear h0
      go_wp2_with fail
      go_ret
      exact ⟨txt, rfl, by have := HROOM.out; omega, B1.out⟩
end Go.Proofs.Ytphfiekhpicpgaa
