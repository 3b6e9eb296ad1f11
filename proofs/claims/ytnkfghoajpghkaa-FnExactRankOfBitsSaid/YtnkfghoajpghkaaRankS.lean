/- Contract: the rank of rows of bits by the reference, and the walk of the law. No condition. -/
import Derived.Test.YtnkfghoajpghkaaRows
import Derived.Test.YtnkfghoajpghkaaRank
set_option linter.unusedVariables false
namespace Go.Proofs.Ytnkfghoajpghkaa
open Go.RowKit Plain
namespace Plain
theorem ret_pairII {a b c d : Int} (h : a = b) (h2 : c = d) : Ending.returned (.tuple #[.int .i64 a, .int .i64 c]) = .returned (.tuple #[.int .i64 b, .int .i64 d]) := by rw [h, h2]
theorem low_and {x : Nat} (h0 : x ≠ 0) (hx : x < 2 ^ 32) : ∃ b, b < 32 ∧ x.testBit b = true ∧ (∀ j, j < b → x.testBit j = false) ∧ bits .and .i64 (x : Int) (-(x : Int)) = ((2 ^ b : Nat) : Int) := by
  obtain ⟨b, hb, h1, h2⟩ := low_bit h0 hx
  refine ⟨b, hb, h1, h2, ?_⟩
  have e : BitVec.ofNat 64 x &&& -(BitVec.ofNat 64 x) = BitVec.twoPow 64 b := by
    apply BitVec.eq_of_getLsbD_eq
    intro i hi
    rw [BitVec.getLsbD_and, BitVec.getLsbD_neg, BitVec.getLsbD_twoPow, BitVec.getLsbD_ofNat]
    have hd : decide (∃ j, j < i ∧ (BitVec.ofNat 64 x).getLsbD j = true) = decide (b < i) := by
      rw [decide_eq_decide]
      constructor
      · rintro ⟨j, hj, e⟩
        rw [BitVec.getLsbD_ofNat] at e
        by_cases hjb : j < b
        · rw [h2 j hjb] at e; simp at e
        · omega
      · intro hbi
        refine ⟨b, hbi, ?_⟩
        rw [BitVec.getLsbD_ofNat, h1, decide_eq_true (by omega)]
        rfl
    rw [hd]
    rcases Nat.lt_trichotomy i b with h | h | h
    · rw [h2 i h, decide_eq_false (p := b < i) (by omega), decide_eq_false (p := b = i) (by omega)]
      simp
    · subst h
      rw [h1, decide_eq_false (p := i < i) (by omega)]
      simp [hi]
    · rw [decide_eq_true (p := b < i) h, decide_eq_false (p := b = i) (by omega), decide_eq_true (p := i < 64) hi]
      cases x.testBit i <;> simp
  have hp : (2 : Nat) ^ b < 2 ^ 32 := Nat.pow_lt_pow_right (by omega) hb
  have e32 : (2 : Nat) ^ 32 = 4294967296 := rfl
  show IntKind.i64.wrap ((BitVec.ofInt 64 (x : Int) &&& BitVec.ofInt 64 (-(x : Int))).toNat : Int) = _
  rw [BitVec.ofInt_neg, BitVec.ofInt_natCast, e, BitVec.toNat_twoPow, Nat.mod_eq_of_lt (by omega), IntKind.wrap_i64]
  obtain ⟨p, hpp⟩ : ∃ p, 2 ^ b = p := ⟨_, rfl⟩
  rw [hpp] at hp ⊢
  omega
theorem and_pow (r b : Nat) : r &&& 2 ^ b = if r.testBit b then 2 ^ b else 0 := by
  apply Nat.eq_of_testBit_eq
  intro i
  rw [Nat.testBit_and, Nat.testBit_two_pow]
  by_cases h : b = i
  · subst h
    cases hr : r.testBit b with
    | true => rw [if_pos rfl, Nat.testBit_two_pow]; simp
    | false => rw [if_neg (by decide)]; simp
  · rw [decide_eq_false h, Bool.and_false]
    split
    · rw [Nat.testBit_two_pow, decide_eq_false h]
    · rw [Nat.zero_testBit]
theorem long_and32 (a b : Nat) (ha : a < 2 ^ 32) (hb : b < 2 ^ 32) : bits .and .i64 (a : Int) (b : Int) = ((a &&& b : Nat) : Int) := by
  have hx : a &&& b < 2 ^ 32 := Nat.and_lt_two_pow _ hb
  have e : (2 : Nat) ^ 32 = 4294967296 := rfl
  show IntKind.i64.wrap ((BitVec.ofInt 64 (a : Int) &&& BitVec.ofInt 64 (b : Int)).toNat : Int) = _
  rw [BitVec.toNat_and, BitVec.ofInt_natCast, BitVec.ofInt_natCast, BitVec.toNat_ofNat, BitVec.toNat_ofNat, Nat.mod_eq_of_lt (by omega), Nat.mod_eq_of_lt (by omega), IntKind.wrap_i64]
  omega
theorem pivs_len : ∀ (f : Nat) (L : List Nat), (pivs f L).length ≤ L.length
  | 0, _ => Nat.zero_le _
  | _ + 1, [] => Nat.le_refl _
  | f + 1, own :: L => by
    show (if own = 0 then pivs f L else own :: pivs f (L.map (clrW own))).length ≤ L.length + 1
    split
    · exact Nat.le_trans (pivs_len f L) (Nat.le_succ _)
    · have := pivs_len f (L.map (clrW own))
      simp at this ⊢
      exact this
theorem pivs_zero (f : Nat) (L : List Nat) : pivs (f + 1) (0 :: L) = pivs f L := by
  show (if _ then _ else _) = _
  rw [if_pos rfl]
theorem pivs_own {own : Nat} (h : own ≠ 0) (f : Nat) (L : List Nat) : pivs (f + 1) (own :: L) = own :: pivs f (L.map (clrW own)) := by
  show (if _ then _ else _) = _
  rw [if_neg h]
/-- The rows from i on. -/
def tl (R : Nat → Nat) (i n : Nat) : List Nat := (List.range (n - i)).map fun j => R (i + j)
theorem tl_cons (R : Nat → Nat) {i n : Nat} (h : i < n) : tl R i n = R i :: tl R (i + 1) n := by
  unfold tl
  rw [show n - i = (n - (i + 1)) + 1 by omega, List.range_succ_eq_map, List.map_cons, List.map_map]
  refine congrArg _ (List.map_congr_left fun j _ => ?_)
  show R (i + (j + 1)) = R (i + 1 + j)
  rw [Nat.add_assoc, Nat.add_comm 1 j]
def elimR (R : Nat → Nat) (i k : Nat) : Nat → Nat := fun j => if i < j ∧ j < k then clrW (R i) (R j) else R j
theorem elim_start (R : Nat → Nat) (i : Nat) : elimR R i (i + 1) = R := by
  funext j
  unfold elimR
  rw [if_neg (by omega)]
theorem elim_at (R : Nat → Nat) (i k : Nat) : elimR R i k k = R k := by
  unfold elimR
  rw [if_neg (by omega)]
theorem elim_own (R : Nat → Nat) (i k : Nat) : elimR R i k i = R i := by
  unfold elimR
  rw [if_neg (by omega)]
theorem elim_hit (R : Nat → Nat) {i k : Nat} (h : i < k) : (fun j => if j = k then clrW (R i) (R k) else elimR R i k j) = elimR R i (k + 1) := by
  funext j
  unfold elimR
  by_cases e : j = k
  · subst e
    rw [if_pos rfl, if_pos (by omega)]
  · rw [if_neg e]
    by_cases h2 : i < j ∧ j < k
    · rw [if_pos h2, if_pos (by omega)]
    · rw [if_neg h2, if_neg (by omega)]
theorem elim_tl (R : Nat → Nat) (i n : Nat) : tl (elimR R i n) (i + 1) n = (tl R (i + 1) n).map (clrW (R i)) := by
  unfold tl
  rw [List.map_map]
  refine List.map_congr_left fun j hj => ?_
  have := List.mem_range.1 hj
  show elimR R i n (i + 1 + j) = clrW (R i) (R (i + 1 + j))
  unfold elimR
  rw [if_pos (by omega)]
theorem elim_lt {R : Nat → Nat} {i n : Nat} (hi : i < n) (h : ∀ j, j < n → R j < 2 ^ 32) (k : Nat) : ∀ j, j < n → elimR R i k j < 2 ^ 32 := fun j hj => by
  unfold elimR clrW
  split
  · split
    · exact Nat.xor_lt_two_pow (h j hj) (h i hi)
    · exact h j hj
  · exact h j hj
end Plain
set_option maxRecDepth 100000 in
set_option maxHeartbeats 400000 in
theorem l01Own {B n : Nat} {v : Value} {b : Nat → Int} (w : World) (hr : RowF w B 2 v n (lng b)) (hn : n < 1000000) :
    Calls Try.prog 59 #[v] w fun e w' => ∃ v', e = .returned v' ∧ RowF w' w.heap.size 2 v' n (lng b) ∧ Below w.heap.size w w' := by
  obtain ⟨i0, hi, hz, hsz, hby⟩ := info_parts info_long
  rcases Nat.eq_zero_or_pos n with h0 | h0
  · subst h0
    obtain ⟨a1, c1, rfl, _, _, _⟩ := hr.form
    clear hr
    have hl : LL (w.alloc (.cells #[] 2)) w.heap.size 2 (.slice (some ⟨w.heap.size, 0, none⟩) 0 0) [] := LL.new rfl (Nat.le_refl _)
    have hr := hl.rowF
    have Hr := Lib.hid hr; clear hr
    clear hl
    rcases a1 with _ | ad
    all_goals
      go_enter Try.func59, Try.ntmps59
      go_wp2
      first | (simp only [Sem.run_pure, Result.andThen_ok, storeCells]; go_wp2) | skip
      go_ret
      exact ⟨_, rfl, Hr.out.congr fun i hi => absurd hi (Nat.not_lt_zero i), (Below.refl _ _).alloc (Nat.le_refl _) _⟩
  · obtain ⟨a1, c1, rfl, _, _, f1⟩ := hr.form
    obtain ⟨g1, rfl, _, hg1⟩ := f1.resolve_left (by omega)
    have hcell : ∀ j, j < n → (w.alloc (.cells #[] 2)).cell? ⟨g1, j, none⟩ = some (.int .i64 (b j)) := fun j hj => (((Below.refl w.heap.size w).alloc (Nat.le_refl _) _).cell (p := ⟨g1, j, none⟩) hg1).trans (hr.at_ hj)
    have hl : LL (w.alloc (.cells #[] 2)) w.heap.size 2 (.slice (some ⟨w.heap.size, 0, none⟩) 0 0) [] := LL.new rfl (Nat.le_refl _)
    clear hr f1
    have Hcell := Lib.hid hcell; clear hcell; have Hl := Lib.hid hl; clear hl
    go_enter Try.func59, Try.ntmps59
    go_wp2_with (at_builtin; refine wpList_appendAll rfl _ _ _ rfl w.heap.size 2 i0 Try.underlying36 hi hz hsz hby _ rfl Hl.out g1 n _ b rfl Hcell.out hn (by simp) ?_; intro vy wy hl hg; have BB := Lib.hid (below_grown ((Below.refl w.heap.size w).alloc (Nat.le_refl _) _) hg (by simp) (fun q hq => (Hl.out.lt q hq).1)); have LY := Lib.hid hl; clear hl hg)
    go_ret
    exact ⟨_, rfl, LY.out, BB.out⟩
set_option maxRecDepth 100000 in
set_option maxHeartbeats 1600000 in
theorem specRankOfBits {B n : Nat} {v : Value} {b : Nat → Int} (w : World) (hr : RowF w B 2 v n (lng b)) :
    Calls Try.prog 25 #[v] w fun e w' => e = .returned (.tuple #[.int .i64 (rankV n b), .int .i64 (rankC n b)]) ∧ Below w.heap.size w w' := by
  by_cases h200 : n ≤ 200
  · have O := Lib.hid (l01Own w hr (by omega))
    obtain ⟨a1, c1, rfl, _, _, f1⟩ := hr.form
    clear hr f1
    go_enter Try.func25, Try.ntmps25
    go_wp2_with fail
    refine O.out.mono ?_
    rintro e wx ⟨v, rfl, hr, hb⟩
    clear O
    obtain ⟨a2, c2, rfl, _, _, f2⟩ := hr.form
    have hr := Lib.hid hr
    have l := Lib.hid hb
    clear hb
    go_wp2_with fail
    go_loop [6] (fun i => ∃ k : Nat, k ≤ n ∧ i = .int .i64 k ∧ okTo b k = true) (fun i => n - (intOf i).toNat)
    case atStart => exact ⟨0, by omega, rfl, rfl⟩
    case round =>
      obtain ⟨k, hk, rfl, hok⟩ := hrel
      by_cases hlt : k < n
      · have hki : (k : Int) < n := by omega
        obtain ⟨g2, rfl, _, _⟩ := f2.resolve_left (by omega)
        clear f2
        have c0 : wx.cell? ⟨g2, k, none⟩ = some (.int .i64 (b k)) := hr.out.at_ hlt
        have C := l01In (b k) 0 4294967295
        have hst : okTo b (k + 1) = (okTo b k && inB (b k) 0 4294967295) := rfl
        rw [hok, Bool.true_and] at hst
        rw [← hst] at C
        obtain ⟨z, hz⟩ : ∃ z, b k = z := ⟨_, rfl⟩
        rw [hz] at C c0
        clear hz
        cases hq : okTo b (k + 1) with
        | true =>
          rw [hq] at C
          have C := Lib.hid C
          have Hq := Lib.hid hq; clear hq
          clear hst
          go_wp2_with fail
          refine (C.out _).mono ?_
          rintro e wx ⟨rfl, rfl⟩
          go_wp2_with fail
          go_round
          case rel => exact ⟨k + 1, by omega, by go_num, Hq.out⟩
          case measure => simp [intOf]; omega
        | false =>
          rw [hq] at C
          have hf := okTo_false hq n (by omega)
          obtain ⟨e1, e2⟩ := rank_bad (n := n) (b := b) (fun h => by rw [hf] at h; cases h.2)
          have E1 := Lib.hid e1
          have E2 := Lib.hid e2
          have C := Lib.hid C
          clear hst hq hf e1 e2
          go_wp2_with fail
          refine (C.out _).mono ?_
          rintro e wx ⟨rfl, rfl⟩
          go_wp2_with fail
          go_ret2
          exact ⟨ret_pairII E1.out.symm E2.out.symm, l.out⟩
      · obtain rfl : k = n := by omega
        obtain ⟨e1, e2⟩ := rank_good h200 hok
        rw [rank_eq (natL_lt hok)] at e1
        have hin := fun i hi => okTo_in hok i hi
        have hR0 : ∀ j, j < k → (b j).toNat < 2 ^ 32 := fun j hj => by have := hin j hj; have e : (2 : Nat) ^ 32 = 4294967296 := rfl; omega
        have hr0 : RowF wx w.heap.size 2 (.slice a2 k c2) k (lng (fun j => (((fun j => (b j).toNat) j : Nat) : Int))) := hr.out.congr fun j hj => by
          have := hin j hj
          show Value.int .i64 (b j) = Value.int .i64 (((b j).toNat : Nat) : Int)
          rw [show (((b j).toNat : Nat) : Int) = b j by omega]
        have ht0 : tl (fun j => (b j).toNat) 0 k = natL b k := by
          unfold tl natL
          refine List.map_congr_left fun j _ => ?_
          show (b (0 + j)).toNat = (b j).toNat
          rw [Nat.zero_add]
        have hnl : (natL b k).length = k := by unfold natL; simp
        rw [hnl, ← ht0] at e1
        obtain ⟨R0, hR⟩ : ∃ R0 : Nat → Nat, (fun j => (b j).toNat) = R0 := ⟨_, rfl⟩
        have hR0 : ∀ j, j < k → R0 j < 2 ^ 32 := by rw [← hR]; exact hR0
        rw [hR] at hr0 e1
        obtain ⟨N, hN⟩ : ∃ N, (pivs k (tl R0 0 k)).length = N := ⟨_, rfl⟩
        rw [hN] at e1
        have hN2 : N ≤ 200 := by
          have := pivs_len k (tl R0 0 k)
          have h2 : (tl R0 0 k).length = k := by unfold tl; simp
          omega
        have E1 := Lib.hid e1
        have E2 := Lib.hid e2
        clear e1 e2 hin hr ht0 hnl hR hok
        have hr0 := Lib.hid hr0
        go_wp2_with fail
        go_loopw [7, 5] (fun i c wr => ∃ (q cnt : Nat) (R : Nat → Nat), q ≤ k ∧ i = .int .i64 q ∧ c = .int .i64 cnt ∧ cnt + (pivs (k - q) (tl R q k)).length = N ∧ (∀ j, j < k → R j < 2 ^ 32) ∧ RowF wr w.heap.size 2 (.slice a2 k c2) k (lng (fun j => ((R j : Nat) : Int))) ∧ Below w.heap.size w wr)
          (fun i _ _ => k - (intOf i).toNat)
        case atStart => exact ⟨0, 0, R0, by omega, rfl, rfl, by rw [Nat.zero_add]; exact hN, hR0, hr0.out, l.out⟩
        case round =>
          clear hr0 hR0 hN l
          obtain ⟨q, cnt, R, hq, rfl, rfl, hc, hR, hr, hb⟩ := hrel
          have hcnt : cnt ≤ 200 := by omega
          by_cases hql : q < k
          · have hqi : (q : Int) < k := by omega
            obtain ⟨g2, rfl, _, hg2⟩ := f2.resolve_left (by omega)
            clear f2
            have c0 : wr.cell? ⟨g2, q, none⟩ = some (.int .i64 ((R q : Nat) : Int)) := hr.at_ hql
            rw [tl_cons R hql, show k - q = (k - (q + 1)) + 1 by omega] at hc
            have hown := hR q hql
            by_cases h0 : R q = 0
            · rw [h0, pivs_zero] at hc
              rw [h0] at c0
              have hR := Lib.hid hR
              have Hr := Lib.hid hr; clear hr; have Hb := Lib.hid hb; clear hb; have Hc := Lib.hid hc; clear hc
              clear hown h0
              go_wp2_with fail
              go_roundw
              case rel => exact ⟨q + 1, cnt, R, by omega, by go_num, rfl, Hc.out, hR.out, Hr.out, Hb.out⟩
              case measure => simp [intOf]; omega
            · rw [pivs_own h0] at hc
              obtain ⟨bt, hbt, b1, b2, hlow⟩ := low_and h0 hown
              have hlb := lowB_eq hbt b1 b2
              have hP32 : 2 ^ bt < 2 ^ 32 := Nat.pow_lt_pow_right (by omega) hbt
              have hP0 : 2 ^ bt ≠ 0 := by have := Nat.pow_pos (n := bt) (show 0 < 2 by omega); omega
              have hat : ∀ r : Nat, r < 2 ^ 32 → bits .and .i64 (r : Int) ((2 ^ bt : Nat) : Int) = ((if r.testBit bt then 2 ^ bt else 0 : Nat) : Int) := fun r hr => by rw [long_and32 r _ hr hP32, and_pow]
              have hel := fun p => elim_at R q p
              have hlt2 := fun p => elim_lt (R := R) hql hR p
              have htl := elim_tl R q k
              rw [← htl] at hc
              have hc : cnt + 1 + (pivs (k - (q + 1)) (tl (elimR R q k) (q + 1) k)).length = N := by simp at hc; omega
              have hxx := fun p hp => elim_hit R (i := q) (k := p) hp
              have hs0 := elim_start R q
              have hr : RowF wr w.heap.size 2 (.slice (some ⟨g2, 0, none⟩) k c2) k (lng (fun j => ((elimR R q (q + 1) j : Nat) : Int))) := by rw [hs0]; exact hr
              obtain ⟨own, ho⟩ : ∃ own, R q = own := ⟨_, rfl⟩
              obtain ⟨P, hP⟩ : ∃ P, 2 ^ bt = P := ⟨_, rfl⟩
              rw [ho] at c0 hown h0 hlow hlb hxx
              rw [hP] at hlow hat hP0
              have h0i : ¬ (own : Int) = 0 := by omega
              have hPb : ((P : Int) != 0) = true := by
                have : ¬ (P : Int) = 0 := by omega
                simpa using this
              have hat := Lib.hid hat
              have hxx := Lib.hid hxx
              have hlb := Lib.hid hlb
              have hR := Lib.hid hR
              have hlt2 := Lib.hid hlt2
              have Hr := Lib.hid hr; clear hr; have Hb := Lib.hid hb; clear hb; have Hc := Lib.hid hc; clear hc
              clear hel htl hs0 b1 b2 hbt hP32 ho hP
              go_wp2_with fail
              go_loopw [10] (fun m wq => ∃ p : Nat, q < p ∧ p ≤ k ∧ m = .int .i64 p ∧ RowF wq w.heap.size 2 (.slice (some ⟨g2, 0, none⟩) k c2) k (lng (fun j => ((elimR R q p j : Nat) : Int))) ∧ Below w.heap.size w wq)
                (fun m _ => k - (intOf m).toNat)
              case atStart => exact ⟨q + 1, by omega, by omega, by go_num, Hr.out, Hb.out⟩
              case round =>
                clear Hr Hb c0
                obtain ⟨p, hp1, hp2, rfl, hr, hb⟩ := hrel
                by_cases hpl : p < k
                · have hpi : (p : Int) < k := by omega
                  have c1 : wr.cell? ⟨g2, p, none⟩ = some (.int .i64 ((R p : Nat) : Int)) := by
                    have := hr.at_ hpl
                    rw [this]
                    show some (Value.int .i64 ((elimR R q p p : Nat) : Int)) = _
                    rw [elim_at]
                  have f1 := hr.fz p
                  have hr32 := hR.out p hpl
                  have ha := hat.out _ hr32
                  have hst := hxx.out p hp1
                  unfold clrW at hst
                  rw [hlb.out] at hst
                  have hx := long_xor32 (R p) own hr32 hown
                  obtain ⟨r, hrr⟩ : ∃ r, R p = r := ⟨_, rfl⟩
                  have hrp := elim_at R q p
                  rw [hrr] at c1 ha hst hx hrp
                  clear hrr hr32
                  cases hbit : r.testBit bt with
                  | true =>
                    rw [hbit, if_pos rfl] at ha hst
                    have hst := Lib.hid hst
                    have Hr := Lib.hid hr; clear hr; have Hb := Lib.hid hb; clear hb
                    clear hbit
                    go_wp2_with fail
                    go_roundw
                    case rel => exact ⟨p + 1, by omega, by omega, by go_num, (Hr.out.put p (.int .i64 ((r ^^^ own : Nat) : Int))).congr fun j hj => by
                      rw [← hst.out]
                      unfold upd
                      show (if j = p then Value.int .i64 ((r ^^^ own : Nat) : Int) else Value.int .i64 ((elimR R q p j : Nat) : Int)) = Value.int .i64 (((if j = p then r ^^^ own else elimR R q p j) : Nat) : Int)
                      by_cases e : j = p
                      · rw [if_pos e, if_pos e]
                      · rw [if_neg e, if_neg e], Hb.out.setCell (p := ⟨g2, p, none⟩) (by show _ ≤ g2; omega) _⟩
                    case measure => simp [intOf]; omega
                  | false =>
                    rw [hbit, if_neg (by decide)] at ha hst
                    have hst := Lib.hid hst
                    have Hr := Lib.hid hr; clear hr; have Hb := Lib.hid hb; clear hb
                    clear hbit
                    go_wp2_with fail
                    go_roundw
                    case rel => exact ⟨p + 1, by omega, by omega, by go_num, Hr.out.congr fun j hj => by
                      rw [← hst.out]
                      show Value.int .i64 ((elimR R q p j : Nat) : Int) = Value.int .i64 (((if j = p then r else elimR R q p j) : Nat) : Int)
                      by_cases e : j = p
                      · rw [if_pos e, e, hrp]
                      · rw [if_neg e], Hb.out⟩
                    case measure => simp [intOf]; omega
                · obtain rfl : p = k := by omega
                  have Hr := Lib.hid hr; clear hr; have Hb := Lib.hid hb; clear hb
                  go_wp2_with fail
                  go_roundw
                  case rel => exact ⟨q + 1, cnt + 1, elimR R q p, by omega, by go_num, by go_num, Hc.out, hlt2.out p, Hr.out, Hb.out⟩
                  case measure => simp [intOf]; omega
          · obtain rfl : q = k := by omega
            have hc : cnt = N := by
              rw [Nat.sub_self] at hc
              exact hc
            subst hc
            have Hr := Lib.hid hr; clear hr; have Hb := Lib.hid hb; clear hb
            go_wp2_with fail
            go_ret2
            exact ⟨ret_pairII E1.out.symm E2.out.symm, Hb.out⟩
  · obtain ⟨e1, e2⟩ := rank_bad (n := n) (b := b) (fun h => h200 h.1)
    rw [e1, e2]
    obtain ⟨a1, c1, rfl, _, _, f1⟩ := hr.form
    clear hr f1 e1 e2
    go_enter Try.func25, Try.ntmps25
    have hni : (200 : Int) < (n : Int) := by omega
    go_wp2_with fail
    go_ret2
    exact ⟨rfl, Below.refl _ _⟩
end Go.Proofs.Ytnkfghoajpghkaa
