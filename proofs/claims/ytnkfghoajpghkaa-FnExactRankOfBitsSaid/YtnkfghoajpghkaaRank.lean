/- Contracts: the rank of rows of bits, by the program and by the reference, and the walk of the law. No condition. -/
import Derived.Test.YtnkfghoajpghkaaRows
import Derived.Test.YtnkfghoajpghkaaRankP
import Derived.Test.YtnkfghoajpghkaaLaws
import Derived.Test.YtnkfghoajpghkaaSlices
import Derived.Test.YtnkfghoajpghkaaSliIn
import Derived.Test.YtnkfghoajpghkaaRange
set_option linter.unusedVariables false
namespace Go.Proofs.Ytnkfghoajpghkaa
open Go.RowKit Plain
section
variable {P : Program} {ops : Array Oper} {rest : List Oper} {o : Oper} {a : Act} {w : World} {Q : Exit → Act → World → Prop}
theorem wpList_appendAll (hgd : o.guard = none) (s x : Operand) (t : TypeId) (ho : o.op = .call { callee := .builtin .append, args := #[s, x], argTypes := #[t, t] })
    (B : Nat) (e : TypeId) (i : TypeInfo) (ht : P.underlying t = some (.slice e)) (hi : P.info? e = some i) (hz : i.zero = some (.int .i64 0)) (hsz : i.size = 1) (hby : i.bytes = 8)
    (v : Value) (hs : a.eval s = v) (hown : LL w B e v []) (g n c : Nat) (f : Nat → Int) (hx : a.eval x = .slice (some ⟨g, 0, none⟩) n c) (hcell : ∀ j, j < n → w.cell? ⟨g, j, none⟩ = some (.int .i64 (f j)))
    (hl : n < 1000000) (hB : B ≤ w.heap.size)
    (h : ∀ v' w', RowF w' B e v' n (lng f) → w.grownBy w' v.ownBlock → wpList P ops Q rest (a.put o.dst v') w') : wpList P ops Q (o :: rest) a w := by
  refine wpList_append_own w hgd s x t ho B e i (.int .i64 0) 1 8 ht hi hz hsz hby rfl (by decide) v 0 [] hs hown ⟨g, 0, none⟩ n c ((List.range n).map (lng f)) hx (by simp) ?_ ?_ ?_ ?_ hB ?_
  · intro j u hj
    rw [List.getElem?_map] at hj
    by_cases hlt : j < n
    · rw [List.getElem?_range hlt] at hj
      simp only [Option.map_some, Option.some.injEq] at hj
      subst hj
      have := hcell j hlt
      have e : (⟨g, 0, none⟩ : Addr).add j = ⟨g, j, none⟩ := by
        unfold Addr.add
        by_cases h0 : j = 0
        · subst h0; rfl
        · rw [if_neg h0, Nat.zero_add]
      rw [e]
      exact this
    · rw [List.getElem?_eq_none (by simp; omega)] at hj
      cases hj
  · intro u hu
    obtain ⟨j, _, rfl⟩ := List.mem_map.1 hu
    rfl
  · unfold maxLen; omega
  · omega
  · intro v' w' h1 h2 _
    refine h v' w' ?_ h2
    rw [Nat.zero_add, List.nil_append] at h1
    exact h1
end
namespace Plain
def okTo (b : Nat → Int) : Nat → Bool
  | 0 => true
  | k + 1 => okTo b k && inB (b k) 0 4294967295
theorem okTo_false {b : Nat → Int} {k : Nat} (h : okTo b k = false) : ∀ n, k ≤ n → okTo b n = false
  | 0, hn => by
    obtain rfl : k = 0 := by omega
    exact h
  | n + 1, hn => by
    by_cases e : k = n + 1
    · subst e; exact h
    · show (okTo b n && _) = false
      rw [okTo_false h n (by omega)]; rfl
theorem okTo_in {b : Nat → Int} : ∀ {n : Nat}, okTo b n = true → ∀ i, i < n → 0 ≤ b i ∧ b i ≤ 4294967295
  | n + 1, h, i, hi => by
    have h : (okTo b n && inB (b n) 0 4294967295) = true := h
    rw [Bool.and_eq_true] at h
    by_cases e : i = n
    · subst e
      have := h.2
      unfold inB at this
      simp only [Bool.and_eq_true, decide_eq_true_eq] at this
      exact this
    · exact okTo_in h.1 i (by omega)
def natL (b : Nat → Int) (n : Nat) : List Nat := (List.range n).map fun i => (b i).toNat
def rankV (n : Nat) (b : Nat → Int) : Int := if n ≤ 200 ∧ okTo b n = true then ((basTo [] (natL b n)).length : Nat) else 0
def rankC (n : Nat) (b : Nat → Int) : Int := if n ≤ 200 ∧ okTo b n = true then 0 else 2
theorem rank_bad {n : Nat} {b : Nat → Int} (h : ¬ (n ≤ 200 ∧ okTo b n = true)) : rankV n b = 0 ∧ rankC n b = 2 := by
  unfold rankV rankC
  rw [if_neg h, if_neg h]
  exact ⟨rfl, rfl⟩
theorem rank_good {n : Nat} {b : Nat → Int} (h1 : n ≤ 200) (h2 : okTo b n = true) : rankV n b = ((basTo [] (natL b n)).length : Nat) ∧ rankC n b = 0 := by
  unfold rankV rankC
  rw [if_pos ⟨h1, h2⟩, if_pos ⟨h1, h2⟩]
  exact ⟨rfl, rfl⟩
theorem natL_lt {n : Nat} {b : Nat → Int} (h : okTo b n = true) : ∀ x ∈ natL b n, x < 2 ^ 32 := fun x hx => by
  obtain ⟨i, hi, rfl⟩ := List.mem_map.1 hx
  have := okTo_in h i (List.mem_range.1 hi)
  have e : (2 : Nat) ^ 32 = 4294967296 := rfl
  omega
theorem redTo_add (o : Nat) : ∀ (B : List Nat) (n : Nat), redTo n (B ++ [o]) = min (redTo n B) (redTo n B ^^^ o)
  | [], n => rfl
  | _ :: B, n => redTo_add o B _
theorem basTo_add (n : Nat) : ∀ (L B : List Nat), basTo B (L ++ [n]) = if redTo n (basTo B L) = 0 then basTo B L else basTo B L ++ [redTo n (basTo B L)]
  | [], B => rfl
  | m :: L, B => basTo_add n L _
theorem redTo_le : ∀ (B : List Nat) (n : Nat), redTo n B ≤ n
  | [], n => Nat.le_refl _
  | o :: B, n => Nat.le_trans (redTo_le B _) (Nat.min_le_left _ _)
theorem natL_add (b : Nat → Int) (n : Nat) : natL b (n + 1) = natL b n ++ [(b n).toNat] := by
  unfold natL
  rw [List.range_succ, List.map_append]
  rfl
theorem basTo_len : ∀ (L B : List Nat), (basTo B L).length ≤ B.length + L.length
  | [], B => Nat.le_refl _
  | n :: L, B => by
    have := basTo_len L (if redTo n B = 0 then B else B ++ [redTo n B])
    show (basTo _ L).length ≤ B.length + (L.length + 1)
    split at this
    · rename_i h; rw [if_pos h]; omega
    · rename_i h; rw [if_neg h]; simp at this; omega
theorem basTo_lt : ∀ (L B : List Nat), (∀ x ∈ B, x < 2 ^ 32) → (∀ x ∈ L, x < 2 ^ 32) → ∀ x ∈ basTo B L, x < 2 ^ 32
  | [], B, hB, _ => hB
  | n :: L, B, hB, hL => by
    refine basTo_lt L _ ?_ fun x hx => hL x (.tail _ hx)
    split
    · exact hB
    · intro x hx
      rcases List.mem_append.1 hx with hx | hx
      · exact hB x hx
      · obtain rfl := List.mem_singleton.1 hx
        exact Nat.lt_of_le_of_lt (redTo_le B n) (hL n (.head _))
theorem long_xor32 (a b : Nat) (ha : a < 2 ^ 32) (hb : b < 2 ^ 32) : bits .xor .i64 (a : Int) (b : Int) = ((a ^^^ b : Nat) : Int) := by
  have hx : a ^^^ b < 2 ^ 32 := Nat.xor_lt_two_pow ha hb
  have e : (2 : Nat) ^ 32 = 4294967296 := rfl
  show IntKind.i64.wrap ((BitVec.ofInt 64 (a : Int) ^^^ BitVec.ofInt 64 (b : Int)).toNat : Int) = _
  rw [BitVec.toNat_xor, BitVec.ofInt_natCast, BitVec.ofInt_natCast, BitVec.toNat_ofNat, BitVec.toNat_ofNat, Nat.mod_eq_of_lt (by omega), Nat.mod_eq_of_lt (by omega), IntKind.wrap_i64]
  omega
theorem min_cast (x y : Nat) : min (x : Int) (y : Int) = ((min x y : Nat) : Int) := by omega
end Plain
set_option maxHeartbeats 400000 in
theorem rankOne (n : Int) (w : World) :
    Calls Try.prog 62 #[.int .i64 n] w fun e w' => e = .returned (.bool (!inB n 0 4294967295)) ∧ w' = w := by
  have C := Lib.hid (inRange n 0 4294967295)
  go_enter Try.func62, Try.ntmps62
  go_wp2_with fail
  refine (C.out _).mono ?_
  rintro e wx ⟨rfl, rfl⟩
  go_wp2_with fail
  go_ret
  exact ⟨rfl, rfl⟩
set_option maxRecDepth 100000 in
set_option maxHeartbeats 400000 in
theorem rankIndex {B n : Nat} {v : Value} {b : Nat → Int} (w : World) (hr : RowF w B 2 v n (lng b)) (hn : n ≤ 200) :
    Calls Try.prog 83 #[v, .func (.func 62) #[] #[]] w fun e w' => ∃ z : Int, decide (0 ≤ z) = (!okTo b n) ∧ e = .returned (.int .i64 z) ∧ w' = w := by
  obtain ⟨a1, c1, rfl, hc1, hm1, f1⟩ := hr.form
  clear hc1 hm1
  have Hr := Lib.hid hr; clear hr
  go_enter Try.func83, Try.ntmps83
  go_wp2
  go_loop [8] (fun i => ∃ k : Nat, k ≤ n ∧ i = .int .i64 k ∧ okTo b k = true) (fun i => n - (intOf i).toNat)
  case atStart => exact ⟨0, by omega, rfl, rfl⟩
  case round =>
    obtain ⟨k, hk, rfl, hok⟩ := hrel
    by_cases hlt : k < n
    · have hki : (k : Int) < n := by omega
      obtain ⟨g1, rfl, _, _⟩ := f1.resolve_left (by omega)
      clear f1
      have c0 : w.cell? ⟨g1, k, none⟩ = some (.int .i64 (b k)) := Hr.out.at_ hlt
      have C := rankOne (b k)
      have hst : okTo b (k + 1) = (okTo b k && inB (b k) 0 4294967295) := rfl
      rw [hok, Bool.true_and] at hst
      rw [← hst] at C
      obtain ⟨z, hz⟩ : ∃ z, b k = z := ⟨_, rfl⟩
      rw [hz] at C c0
      clear hz
      cases hq : okTo b (k + 1) with
      | true =>
        rw [hq] at C
        have C := Lib.hid C
        have Hq := Lib.hid hq; clear hq
        clear hst
        go_wp2_with fail
        refine (C.out _).mono ?_
        rintro e wx ⟨rfl, rfl⟩
        go_wp2_with fail
        go_round
        case rel => exact ⟨k + 1, by omega, by go_num, Hq.out⟩
        case measure => simp [intOf]; omega
      | false =>
        rw [hq] at C
        have hf := okTo_false hq n (by omega)
        have C := Lib.hid C
        clear hst hq
        have Hf := Lib.hid hf; clear hf
        go_wp2_with fail
        refine (C.out _).mono ?_
        rintro e wx ⟨rfl, rfl⟩
        go_wp2_with fail
        go_ret
        exact ⟨_, by rw [Hf.out]; simp, rfl, rfl⟩
    · obtain rfl : k = n := by omega
      have Hok := Lib.hid hok; clear hok
      go_wp2
      go_ret
      exact ⟨-1, by rw [Hok.out]; rfl, rfl, rfl⟩
set_option maxHeartbeats 400000 in
theorem rankContains {B n : Nat} {v : Value} {b : Nat → Int} (w : World) (hr : RowF w B 2 v n (lng b)) (hn : n ≤ 200) :
    Calls Try.prog 61 #[v, .func (.func 62) #[] #[]] w fun e w' => e = .returned (.bool (!okTo b n)) ∧ w' = w := by
  have C := Lib.hid (rankIndex w hr hn)
  clear hr
  go_enter Try.func61, Try.ntmps61
  go_wp2_with fail
  refine C.out.mono ?_
  rintro e wx ⟨z, hz, rfl, rfl⟩
  go_wp2_with fail
  go_ret
  exact ⟨rfl, rfl⟩
def ints (L : List Nat) : List Int := L.map fun (x : Nat) => (x : Int)
theorem min_ite (y z : Nat) : (if z < y then (z : Int) else (y : Int)) = ((min y z : Nat) : Int) := by split <;> omega
theorem ints_len (L : List Nat) : (ints L).length = L.length := by unfold ints; simp
theorem ints_at (L : List Nat) {q : Nat} (hq : q < L.length) : (ints L).getD q 0 = ((L.getD q 0 : Nat) : Int) := by
  unfold ints
  rw [List.getD_eq_getElem?_getD, List.getD_eq_getElem?_getD, List.getElem?_map, List.getElem?_eq_getElem hq]
  rfl
theorem take_add (L : List Nat) {q : Nat} (hq : q < L.length) : L.take (q + 1) = L.take q ++ [L.getD q 0] := by
  rw [List.take_add_one, List.getD_eq_getElem?_getD, List.getElem?_eq_getElem hq]
  rfl
theorem getD_lt {L : List Nat} {q : Nat} (hq : q < L.length) (h : ∀ x ∈ L, x < 2 ^ 32) : L.getD q 0 < 2 ^ 32 := by
  rw [List.getD_eq_getElem?_getD, List.getElem?_eq_getElem hq]
  exact h _ (List.getElem_mem hq)
set_option maxHeartbeats 400000 in
theorem implLength (a : Option Addr) (n cap : Nat) (w : World) :
    Calls Try.prog 64 #[.slice a n cap] w fun e w' => e = .returned (.int .i64 (n : Int)) ∧ w' = w := by
  go_enter Try.func64, Try.ntmps64
  go_wp2
  go_ret
  exact ⟨rfl, rfl⟩
set_option maxRecDepth 100000 in
set_option maxHeartbeats 1600000 in
theorem implRankOfBits {B n : Nat} {v : Value} {b : Nat → Int} (w : World) (hr : RowF w B 2 v n (lng b)) :
    Calls Try.prog 27 #[v] w fun e w' => e = .returned (.tuple #[.int .i64 (rankV n b), .int .i64 (rankC n b)]) ∧ Below w.heap.size w w' := by
  obtain ⟨i0, hi, hz, hsz, hby⟩ := info_parts info_long
  by_cases h200 : n ≤ 200
  · cases hok : okTo b n with
    | false =>
      obtain ⟨e1, e2⟩ := rank_bad (n := n) (b := b) (fun h => by rw [hok] at h; cases h.2)
      rw [e1, e2]
      have C := rankContains w hr h200
      rw [hok] at C
      have C := Lib.hid C
      obtain ⟨a1, c1, rfl, _, _, f1⟩ := hr.form
      clear hr f1 hok e1 e2
      go_enter Try.func27, Try.ntmps27
      have hni : decide ((200 : Int) < (n : Int)) = false := decide_eq_false (by omega)
      go_wp2_with fail
      refine C.out.mono ?_
      rintro e wx ⟨rfl, rfl⟩
      go_wp2_with fail
      go_ret2
      exact ⟨rfl, Below.refl _ _⟩
    | true =>
      obtain ⟨e1, e2⟩ := rank_good h200 hok
      rw [e1, e2]
      have C := rankContains w hr h200
      rw [hok] at C
      have C := Lib.hid C
      have hin := fun i hi => okTo_in hok i hi
      have hlt := natL_lt hok
      obtain ⟨a1, c1, rfl, _, _, f1⟩ := hr.form
      clear e1 e2
      have Hr := Lib.hid hr; clear hr; have Hin := Lib.hid hin; clear hin; have Hok := Lib.hid hok; clear hok
      go_enter Try.func27, Try.ntmps27
      have hni : decide ((200 : Int) < (n : Int)) = false := decide_eq_false (by omega)
      go_wp2_with fail
      refine C.out.mono ?_
      rintro e wx ⟨rfl, rfl⟩
      clear C
      go_wp2_with fail
      go_loopw [19, 4] (fun i v wr => ∃ k : Nat, k ≤ n ∧ i = .int .i64 k ∧ LL wr wx.heap.size 2 v (ints (basTo [] (natL b k))) ∧ Below wx.heap.size wx wr)
        (fun i _ _ => n - (intOf i).toNat)
      case atStart => exact ⟨0, by omega, rfl, LL.new rfl (Nat.le_refl _), (Below.refl _ _).alloc (Nat.le_refl _) _⟩
      case round =>
        obtain ⟨k, hk, rfl, hl, hb⟩ := hrel
        have hbl := basTo_len (natL b k) []
        have hnl : (natL b k).length = k := by unfold natL; simp
        have hkl : ∀ x ∈ natL b k, x < 2 ^ 32 := fun x hx => by
          obtain ⟨i, hi, rfl⟩ := List.mem_map.1 hx
          exact hlt _ (List.mem_map.2 ⟨i, List.mem_range.2 (by have := List.mem_range.1 hi; omega), rfl⟩)
        have hBl := basTo_lt (natL b k) [] (fun x hx => (List.not_mem_nil hx).elim) hkl
        have hst := fun (r : Nat) (h : r = redTo (b k).toNat (basTo [] (natL b k))) => by
          have := basTo_add (b k).toNat (natL b k) []
          rw [← natL_add, ← h] at this
          exact this
        by_cases hlt2 : k < n
        · have hki : (k : Int) < n := by omega
          obtain ⟨g1, rfl, _, hg1⟩ := f1.resolve_left (by omega)
          have hbk := Hin.out k hlt2
          obtain ⟨x, hx⟩ : ∃ x : Nat, b k = (x : Int) := ⟨(b k).toNat, by omega⟩
          have c0 : wr.cell? ⟨g1, k, none⟩ = some (.int .i64 (x : Int)) := by
            rw [← hx]
            exact (hb.cell (p := ⟨g1, k, none⟩) hg1).trans (Hr.out.at_ hlt2)
          have hx32 : x < 2 ^ 32 := by have e : (2 : Nat) ^ 32 = 4294967296 := rfl; omega
          rw [show (b k).toNat = x by omega] at hst
          have hst := Lib.hid hst
          obtain ⟨Bs, hBs⟩ : ∃ Bs, basTo [] (natL b k) = Bs := ⟨_, rfl⟩
          rw [hBs] at hl hbl hBl hst
          have hm : Bs.length ≤ 200 := by simp at hbl; omega
          obtain ⟨a2, c2, hv, _, _, f2⟩ := hl.rowF.form
          subst hv
          have hlen := ints_len Bs
          have hrow := hl.rowF
          rw [hlen] at hrow f2
          obtain ⟨m, hmm⟩ : ∃ m, Bs.length = m := ⟨_, rfl⟩
          rw [hmm] at hrow f2 hlen hm
          rw [hlen] at hl ⊢
          have Hl := Lib.hid hl; clear hl; have Hb := Lib.hid hb; clear hb; have Hrow := Lib.hid hrow; clear hrow; have HBl := Lib.hid hBl; clear hBl
          clear hbl hnl hkl
          go_wp2_with fail
          go_loop [25, 6] (fun j y => ∃ q : Nat, q ≤ m ∧ j = .int .i64 q ∧ y = .int .i64 ((redTo x (Bs.take q) : Nat) : Int)) (fun j _ => m - (intOf j).toNat)
          case atStart => exact ⟨0, by omega, rfl, rfl⟩
          case round =>
            obtain ⟨q, hq, rfl, rfl⟩ := hrel
            by_cases hql : q < m
            · have hqi : (q : Int) < m := by omega
              obtain ⟨g2, rfl, _, _⟩ := f2.resolve_left (by omega)
              have c1 : wr.cell? ⟨g2, q, none⟩ = some (.int .i64 ((Bs.getD q 0 : Nat) : Int)) := by
                have := Hrow.out.at_ hql
                rw [this]
                show some (Value.int .i64 ((ints Bs).getD q 0)) = _
                rw [ints_at Bs (by omega)]
              have ho := getD_lt (q := q) (by omega) HBl.out
              have hy : redTo x (Bs.take q) < 2 ^ 32 := Nat.lt_of_le_of_lt (redTo_le _ _) hx32
              have ht := redTo_add (Bs.getD q 0) (Bs.take q) x
              rw [← take_add Bs (by omega)] at ht
              obtain ⟨o, hoo⟩ : ∃ o, Bs.getD q 0 = o := ⟨_, rfl⟩
              obtain ⟨y, hyy⟩ : ∃ y, redTo x (Bs.take q) = y := ⟨_, rfl⟩
              rw [hoo] at c1 ho ht
              rw [hyy] at hy ht ⊢
              have e1 := long_xor32 y o hy ho
              have e2 := min_cast y (y ^^^ o)
              clear hoo hyy ho hy
              have Ht := Lib.hid ht; clear ht
              go_wp2_with fail
              go_round
              case rel => exact ⟨q + 1, by omega, by go_num, by rw [Ht.out, min_ite]⟩
              case measure => simp [intOf]; omega
            · obtain rfl : q = m := by omega
              have htk : Bs.take q = Bs := by rw [← hmm]; exact List.take_length
              rw [htk]
              have hst := fun r h => hst.out r h
              obtain ⟨r, hrr⟩ : ∃ r, redTo x Bs = r := ⟨_, rfl⟩
              have hst := hst r hrr.symm
              rw [hrr]
              clear htk hrr
              have hsize := Hb.out.size
              by_cases h0 : r = 0
              · subst h0
                rw [if_pos rfl] at hst
                have Hst := Lib.hid hst; clear hst
                go_wp2_with fail
                go_roundw
                case rel => exact ⟨k + 1, by omega, by go_num, by rw [Hst.out]; exact Hl.out, Hb.out⟩
                case measure => simp [intOf]; omega
              · rw [if_neg h0] at hst
                have h0i : ¬ (r : Int) = 0 := by omega
                have hst : ints (basTo [] (natL b (k + 1))) = ints Bs ++ [(r : Int)] := by rw [hst]; unfold ints; rw [List.map_append]; rfl
                have Hst := Lib.hid hst; clear hst
                go_wp2_with (at_builtin; refine wpList_appendL rfl _ _ _ rfl wx.heap.size 2 i0 Try.underlying36 hi hz hsz hby _ _ rfl (Hl.out.alloc _) _ _ (r : Int) rfl (cell_new1 rfl) (by omega) (by have := Hb.out.size; simp; omega) ?_; intro vy wy hl hg; have BB := Lib.hid (below_grown (Hb.out.alloc (by omega) _) hg (by have := Hb.out.size; simp; omega) (fun q hq => by have := (Hl.out.lt q hq).1; omega)); have LY := Lib.hid hl; clear hl hg)
                go_roundw
                case rel => exact ⟨k + 1, by omega, by go_num, by rw [Hst.out]; exact LY.out, BB.out⟩
                case measure => simp [intOf]; omega
        · obtain rfl : k = n := by omega
          obtain ⟨a2, c2, hv, _, _, f2⟩ := hl.rowF.form
          subst hv
          have hlen := ints_len (basTo [] (natL b k))
          rw [hlen] at hl ⊢
          have Hl := Lib.hid hl; clear hl; have Hb := Lib.hid hb; clear hb
          go_wp2_with fail
          refine (implLength _ _ _ _).mono ?_
          rintro e wz ⟨rfl, rfl⟩
          go_wp2_with fail
          go_ret2
          exact ⟨rfl, Hb.out⟩
  · obtain ⟨e1, e2⟩ := rank_bad (n := n) (b := b) (fun h => h200 h.1)
    rw [e1, e2]
    obtain ⟨a1, c1, rfl, _, _, f1⟩ := hr.form
    clear hr f1 e1 e2
    go_enter Try.func27, Try.ntmps27
    have hni : decide ((200 : Int) < (n : Int)) = true := decide_eq_true (by omega)
    go_wp2_with fail
    go_ret2
    exact ⟨rfl, Below.refl _ _⟩
end Go.Proofs.Ytnkfghoajpghkaa
