/- Contracts: the linearity of a box: the transforms in place, by the reference. No condition. -/
import Derived.Test.YtphfiekhpicpgaaRows
import Derived.Test.YtphfiekhpicpgaaBias
import Derived.Test.YtphfiekhpicpgaaSlices
import Derived.Test.YtphfiekhpicpgaaUni
import Derived.StillTailTactics
import Derived.Deep.DeepCutAuto
set_option linter.unusedVariables false
namespace Go.Proofs.Ytphfiekhpicpgaa
open Go.RowKit Plain
def bf (q : Nat) (f : Nat → Int) : Nat → Int := fun i => if i &&& q = 0 then f i + f (i + q) else f (i - q) - f i
def bfTo (q : Nat) (f : Nat → Int) (k : Nat) : Nat → Int := fun i => if i &&& q = 0 then (if i < k then f i + f (i + q) else f i) else (if i - q < k then f (i - q) - f i else f i)
def wal (b : Nat → UInt8) (v : UInt8) : Nat → Nat → Int
  | 0 => fun i => 1 - 2 * oddI (b i &&& v)
  | t + 1 => bf (2 ^ t) (wal b v t)
theorem wal_le (b : Nat → UInt8) (v : UInt8) : ∀ (t i : Nat), -(2 ^ t : Int) ≤ wal b v t i ∧ wal b v t i ≤ 2 ^ t
  | 0, i => by
    show -(2 ^ 0 : Int) ≤ 1 - 2 * oddI (b i &&& v) ∧ 1 - 2 * oddI (b i &&& v) ≤ 2 ^ 0
    rcases oddI_or (b i &&& v) with h | h <;> rw [h] <;> omega
  | t + 1, i => by
    show -(2 ^ (t + 1) : Int) ≤ bf (2 ^ t) (wal b v t) i ∧ bf (2 ^ t) (wal b v t) i ≤ 2 ^ (t + 1)
    have h1 := wal_le b v t i
    have h2 := wal_le b v t (i + 2 ^ t)
    have h3 := wal_le b v t (i - 2 ^ t)
    have hp : (2 : Int) ^ (t + 1) = 2 ^ t * 2 := Int.pow_succ 2 t
    unfold bf
    split <;> omega
theorem wal_256 (b : Nat → UInt8) (v : UInt8) {t : Nat} (ht : t ≤ 8) (i : Nat) : -256 ≤ wal b v t i ∧ wal b v t i ≤ 256 := by
  have h := wal_le b v t i
  have hp : (2 : Int) ^ t ≤ 256 := by
    have : 2 ^ t ≤ 2 ^ 8 := Nat.pow_le_pow_right (n := 2) (by omega) ht
    have h2 : ((2 ^ t : Nat) : Int) = (2 : Int) ^ t := by push_cast; rfl
    omega
  omega
theorem bfTo_zero {q : Nat} (f : Nat → Int) (hq : 0 < q) (i : Nat) : bfTo q f 0 i = f i := by
  unfold bfTo
  split <;> rw [if_neg (Nat.not_lt_zero _)]
theorem bfTo_at {q : Nat} (f : Nat → Int) {k : Nat} (h : k &&& q = 0) : bfTo q f k k = f k := by
  unfold bfTo
  rw [if_pos h, if_neg (Nat.lt_irrefl _)]
theorem bfTo_up {q : Nat} (f : Nat → Int) {k : Nat} (h : (k + q) &&& q ≠ 0) : bfTo q f k (k + q) = f (k + q) := by
  unfold bfTo
  rw [if_neg h, if_neg (by omega)]
theorem bfTo_hit {q : Nat} (f : Nat → Int) {k : Nat} (h : k &&& q = 0) (h2 : (k + q) &&& q ≠ 0) (hq : 0 < q) (hinv : ∀ i, i &&& q ≠ 0 → q ≤ i) (i : Nat) :
    upd (upd (bfTo q f k) k (f k + f (k + q))) (k + q) (f k - f (k + q)) i = bfTo q f (k + 1) i := by
  unfold upd bfTo
  by_cases h1 : i = k + q
  · subst h1
    rw [if_pos rfl, if_neg h2, if_pos (by omega), Nat.add_sub_cancel]
  · rw [if_neg h1]
    by_cases h3 : i = k
    · subst h3
      rw [if_pos rfl, if_pos h, if_pos (by omega)]
    · rw [if_neg h3]
      by_cases h4 : i &&& q = 0
      · rw [if_pos h4, if_pos h4]
        by_cases h5 : i < k
        · rw [if_pos h5, if_pos (by omega)]
        · rw [if_neg h5, if_neg (by omega)]
      · rw [if_neg h4, if_neg h4]
        have := hinv i h4
        by_cases h5 : i - q < k
        · rw [if_pos h5, if_pos (by omega)]
        · rw [if_neg h5, if_neg (by omega)]
theorem bfTo_miss {q : Nat} (f : Nat → Int) {k : Nat} (h : k &&& q ≠ 0) (hsub : ∀ i, i < 256 → i &&& q ≠ 0 → (i - q) &&& q = 0) {i : Nat} (hi : i < 256) : bfTo q f k i = bfTo q f (k + 1) i := by
  unfold bfTo
  by_cases h4 : i &&& q = 0
  · rw [if_pos h4, if_pos h4]
    have hne : i ≠ k := fun e => h (by rw [← e]; exact h4)
    by_cases h5 : i < k
    · rw [if_pos h5, if_pos (by omega)]
    · rw [if_neg h5, if_neg (by omega)]
  · rw [if_neg h4, if_neg h4]
    have hne : i - q ≠ k := fun e => h (by rw [← e]; exact hsub i hi h4)
    by_cases h5 : i - q < k
    · rw [if_pos h5, if_pos (by omega)]
    · rw [if_neg h5, if_neg (by omega)]
theorem bfTo_end {q : Nat} (f : Nat → Int) {i : Nat} (hi : i < 256) : bfTo q f 256 i = bf q f i := by
  unfold bfTo bf
  by_cases h : i &&& q = 0
  · rw [if_pos h, if_pos h, if_pos hi]
  · rw [if_neg h, if_neg h, if_pos (by omega)]
theorem and_ge {t q i : Nat} (hq : q = 2 ^ t) (h : i &&& q ≠ 0) : q ≤ i := by
  subst hq
  refine Classical.byContradiction fun hn => h ?_
  apply Nat.eq_of_testBit_eq
  intro j
  rw [Nat.testBit_and, Nat.testBit_two_pow, Nat.zero_testBit]
  by_cases hj : t = j
  · subst hj
    rw [Nat.testBit_lt_two_pow (by omega), Bool.false_and]
  · rw [decide_eq_false hj, Bool.and_false]
theorem and_sub {t q i : Nat} (hq : q = 2 ^ t) (ht : t < 8) (hi : i < 256) (h : i &&& q ≠ 0) : (i - q) &&& q = 0 := by
  subst hq
  exact (bit_facts t ht i hi h).2.1
def biasL (b : Nat → UInt8) (v : UInt8) : Nat → List Int
  | 0 => []
  | k + 1 => biasL b v k ++ [1 - 2 * oddI (b k &&& v)]
theorem biasL_len (b : Nat → UInt8) (v : UInt8) : ∀ k, (biasL b v k).length = k
  | 0 => rfl
  | k + 1 => by unfold biasL; rw [List.length_append, biasL_len b v k]; rfl
theorem biasL_at (b : Nat → UInt8) (v : UInt8) : ∀ (n p : Nat), p < n → (biasL b v n).getD p 0 = wal b v 0 p
  | n + 1, p, hp => by
    unfold biasL
    rw [List.getD_eq_getElem?_getD, List.getElem?_append]
    have hl := biasL_len b v n
    by_cases h : p < n
    · rw [if_pos (by omega), ← List.getD_eq_getElem?_getD]
      exact biasL_at b v n p h
    · obtain rfl : p = n := by omega
      rw [if_neg (by omega), hl, Nat.sub_self]
      rfl
def linRun (a : Int) (f : Nat → Int) : Nat → Int
  | 0 => a
  | k + 1 => max (linRun a f k) (max (f k) (-(f k)))
def linTo (b : Nat → UInt8) : Nat → Int
  | 0 => 0
  | j + 1 => linRun (linTo b j) (wal b (UInt8.ofNat (j + 1)) 8) 256
theorem linRun_step (a : Int) (f : Nat → Int) (k : Nat) : linRun a f (k + 1) = if linRun a f k < (if f k < -(f k) then -(f k) else f k) then (if f k < -(f k) then -(f k) else f k) else linRun a f k := by
  rw [max_if, max_if]
  rfl
theorem linRun_step3 (a : Int) (f : Nat → Int) (k : Nat) : linRun a f (k + 1) = if (if linRun a f k < f k then f k else linRun a f k) < -(f k) then -(f k) else (if linRun a f k < f k then f k else linRun a f k) := by
  rw [max_if, max_if]
  show max (linRun a f k) (max (f k) (-(f k))) = _
  omega
theorem odd_one (x : UInt8) : (1 : Int) - 2 * oddI x = 1 ∨ (1 : Int) - 2 * oddI x = -1 := by
  rcases oddI_or x with h | h <;> rw [h] <;> omega
set_option maxRecDepth 100000 in
set_option maxHeartbeats 1600000 in
theorem l02Biases (b : Nat → UInt8) (v : UInt8) (w : World) :
    Calls Try.prog 80 #[.agg (byteRow 256 b), .int .u8 (v.toNat : Int)] w fun e w' => ∃ x, e = .returned x ∧ RowF w' (w.heap.size + 1) 2 x 256 (lng (wal b v 8)) ∧ Below w.heap.size w w' := by
  obtain ⟨i0, hi, hz, hsz, hby⟩ := info_parts info_long
  go_enter Try.func80, Try.ntmps80
  go_wp2
  go_loopw [6, 5] (fun x y wr => ∃ k : Nat, k ≤ 256 ∧ x = .int .i64 k ∧ LL wr (w.heap.size + 1) 2 y (biasL b v k) ∧ Blk wr w.heap.size 27 (byteRow 256 b) ∧ Below w.heap.size w wr)
    (fun x _ _ => 256 - (intOf x).toNat)
  case atStart => exact ⟨0, by omega, rfl, LL.new (by simp) (by simp), (Blk.new w _ _).alloc _, ((Below.refl _ _).alloc (by omega) _).alloc (by simp) _⟩
  case round =>
    obtain ⟨k, hk, rfl, hl, b0, hb⟩ := hrel
    by_cases hlt : k < 256
    · have hki : (k : Int) < 256 := by omega
      have c0 := b0.byteAt hlt
      have ea := b_and (b k) v
      have hlen := biasL_len b v k
      have hsize := hb.size
      have hst : biasL b v (k + 1) = biasL b v k ++ [1 - 2 * oddI (b k &&& v)] := rfl
      obtain ⟨p, hp⟩ : ∃ p, b k &&& v = p := ⟨_, rfl⟩
      rw [hp] at ea hst
      have ho := l02Odd p
      have hor := oddI_or p
      obtain ⟨d, hd⟩ : ∃ d, oddI p = d := ⟨_, rfl⟩
      rw [hd] at ho hor hst
      have hd0 : 0 ≤ d := by omega
      have hd1 : d ≤ 1 := by omega
      have HO := Lib.hid ho
      clear ho hp hd hor
      have Hl := Lib.hid hl; clear hl; have H0 := Lib.hid b0; clear b0; have Hb := Lib.hid hb; clear hb; have Hst := Lib.hid hst; clear hst
      go_wp2_with (first | (go_at_call 79; refine (HO.out _).mono ?_; rintro e wx ⟨rfl, rfl⟩) | (at_builtin; refine wpList_appendL rfl _ _ _ rfl (w.heap.size + 1) 2 i0 Try.underlying30 hi hz hsz hby _ _ rfl (Hl.out.alloc _) _ _ (1 - 2 * d : Int) rfl (cell_new1 rfl) (by omega) (by have := Hb.out.size; simp; omega) ?_; intro vy wy hl hg; have BB := Lib.hid (below_grown (Hb.out.alloc (by omega) _) hg (by have := Hb.out.size; simp; omega) (fun q hq => by have := (Hl.out.lt q hq).1; omega)); have H0' := Lib.hid ((H0.out.alloc _).grown hg (fun hq => by have := (Hl.out.lt _ hq.symm).1; omega)); have LY := Lib.hid hl; clear hl hg))
      go_roundw
      case rel => exact ⟨k + 1, by omega, by go_num, by rw [Hst.out]; exact LY.out, H0'.out, BB.out⟩
      case measure => simp [intOf]; omega
    · obtain rfl : k = 256 := by omega
      have hr := hl.rowF
      rw [biasL_len] at hr
      have hr := hr.congr (f' := lng (wal b v 0)) fun p hp => by show Value.int .i64 _ = .int .i64 _; rw [biasL_at b v 256 p hp]
      obtain ⟨a1, cap, rfl, hc1, hm1, f1⟩ := hr.form
      obtain ⟨g, rfl, hgB, hgs⟩ := f1.resolve_left (by omega)
      clear hl b0 f1
      have Hr := Lib.hid hr; clear hr; have Hb := Lib.hid hb; clear hb
      obtain ⟨wo, rfl⟩ : ∃ wo : World, wo = wr := ⟨_, rfl⟩
      go_wp2
      go_loopw [7] (fun s wr => ∃ t q : Nat, t ≤ 8 ∧ q = 2 ^ t ∧ s = .int .i64 q ∧ RowF wr (w.heap.size + 1) 2 (.slice (some ⟨g, 0, none⟩) 256 cap) 256 (lng (wal b v t)) ∧ Below w.heap.size w wr)
        (fun s _ => 256 - (intOf s).toNat)
      case atStart => exact ⟨0, 1, by omega, rfl, rfl, Hr.out, Hb.out⟩
      case round =>
        clear Hr Hb
        obtain ⟨t, q, ht, hq, rfl, hr, hb⟩ := hrel
        by_cases h8 : t < 8
        · have hp1 : 1 ≤ q := by rw [hq]; exact (pow_small h8).1
          have hp2 : q ≤ 128 := by rw [hq]; exact (pow_small h8).2
          have hqi1 : (q : Int) < 256 := by omega
          have Hq := Lib.hid hq; clear hq; have Hr := Lib.hid hr; clear hr; have Hb := Lib.hid hb; clear hb
          obtain ⟨wo, rfl⟩ : ∃ wo : World, wo = wr := ⟨_, rfl⟩
          go_wp2
          go_loopw [8] (fun j wr => ∃ k : Nat, k ≤ 256 ∧ j = .int .i64 k ∧ RowF wr (w.heap.size + 1) 2 (.slice (some ⟨g, 0, none⟩) 256 cap) 256 (lng (bfTo q (wal b v t) k)) ∧ Below w.heap.size w wr)
            (fun j _ => 256 - (intOf j).toNat)
          case atStart => exact ⟨0, by omega, rfl, Hr.out.congr fun i _ => by show Value.int .i64 _ = .int .i64 _; rw [bfTo_zero _ (by omega)], Hb.out⟩
          case round =>
            clear Hr Hb
            obtain ⟨k, hk, rfl, hr, hb⟩ := hrel
            by_cases hlt : k < 256
            · have hki : (k : Int) < 256 := by omega
              have ea := long_and k q (by omega) (by omega)
              by_cases hz0 : k &&& q = 0
              · have hbf := bit_facts0 t h8 k hlt (by rw [← Hq.out]; exact hz0)
                rw [← Hq.out] at hbf
                obtain ⟨f1, f2, f3⟩ := hbf
                have e0 : bits .and .i64 (k : Int) (q : Int) = 0 := by rw [ea, hz0]; rfl
                obtain ⟨x, hx⟩ : ∃ x, wal b v t k = x := ⟨_, rfl⟩
                obtain ⟨y, hy⟩ : ∃ y, wal b v t (k + q) = y := ⟨_, rfl⟩
                have hxb := wal_256 b v (Nat.le_of_lt h8) k
                have hyb := wal_256 b v (Nat.le_of_lt h8) (k + q)
                have hput := fun i => bfTo_hit (wal b v t) hz0 f3 (by omega) (fun i hi => and_ge Hq.out hi) i
                rw [hx, hy] at hput
                rw [hx] at hxb
                rw [hy] at hyb
                have hx1 := hxb.1
                have hx2 := hxb.2
                have hy1 := hyb.1
                have hy2 := hyb.2
                have c1 : wr.cell? ⟨g, k, none⟩ = some (.int .i64 x) := (hr.at_ hlt).trans (by show some (Value.int .i64 (bfTo q (wal b v t) k k)) = _; rw [bfTo_at _ hz0, hx])
                have c2 : wr.cell? ⟨g, k + q, none⟩ = some (.int .i64 y) := (hr.at_ f1).trans (by show some (Value.int .i64 (bfTo q (wal b v t) k (k + q))) = _; rw [bfTo_up _ f3, hy])
                have z1 := hr.fz k
                have z2 := hr.fz (k + q)
                have hkq : (k : Int) + (q : Int) < 256 := by omega
                clear ea hz0 f2 f3 hx hy hxb hyb
                have Hr := Lib.hid hr; clear hr; have Hb := Lib.hid hb; clear hb; have Hput := Lib.hid hput; clear hput
                go_upto_region 13 with fail
                go_quiet (fail)
                go_wp2
                go_roundw
                case rel =>
                  refine ⟨k + 1, by omega, by go_num, ?_, ((below_drewN' Hb.out nq).setCell (p := ⟨g, k, none⟩) (by show _ ≤ g; omega) _).setCell (p := ⟨g, k + q, none⟩) (by show _ ≤ g; omega) _⟩
                  have h1 := ((Hr.out.drewN nq).put k (.int .i64 (x + y))).put (k + q) (.int .i64 (x - y))
                  rw [lng_put, lng_put] at h1
                  exact h1.congr fun i _ => by show Value.int .i64 _ = .int .i64 _; rw [Hput.out i]
                case measure => simp [intOf]; omega
              · have e0 : (bits .and .i64 (k : Int) (q : Int) == 0) = false := by
                  rw [ea, beq_eq_false_iff_ne]
                  omega
                have hr' := hr.congr (f' := lng (bfTo q (wal b v t) (k + 1))) fun i hi => by show Value.int .i64 _ = .int .i64 _; rw [bfTo_miss _ hz0 (fun i hi h => and_sub Hq.out h8 hi h) hi]
                clear ea hz0 hr
                have Hr' := Lib.hid hr'; clear hr'; have Hb := Lib.hid hb; clear hb
                go_wp2
                go_roundw
                case rel => exact ⟨k + 1, by omega, by go_num, Hr'.out, Hb.out⟩
                case measure => simp [intOf]; omega
            · obtain rfl : k = 256 := by omega
              have hr' := hr.congr (f' := lng (wal b v (t + 1))) fun i hi => by show Value.int .i64 _ = .int .i64 _; rw [bfTo_end _ hi, Hq.out]; rfl
              clear hr
              have Hr' := Lib.hid hr'; clear hr'; have Hb := Lib.hid hb; clear hb
              go_wp2
              go_roundw
              case rel => exact ⟨t + 1, q * 2, by omega, by rw [Hq.out, Nat.pow_succ], by go_num, Hr'.out, Hb.out⟩
              case measure => simp [intOf]; omega
        · obtain rfl : t = 8 := by omega
          obtain rfl : q = 256 := hq
          have Hr := Lib.hid hr; clear hr; have Hb := Lib.hid hb; clear hb
          go_wp2
          go_ret
          exact ⟨_, rfl, Hr.out, Hb.out⟩
end Go.Proofs.Ytphfiekhpicpgaa
