/- Plain facts: two ways to count the rank of a list of rows of bits agree. No program. -/
import Derived.Test.YtnkfghoajpghkaaRows
import Derived.Test.YtnkfghoajpghkaaPlain
set_option linter.unusedVariables false
namespace Go.Proofs.Ytnkfghoajpghkaa
namespace Plain
/-- All sums of parts of a list. -/
def combos : List Nat → List Nat
  | [] => [0]
  | v :: S => combos S ++ (combos S).map (v ^^^ ·)
theorem combos_len : ∀ S, (combos S).length = 2 ^ S.length
  | [] => rfl
  | v :: S => by
    simp only [combos, List.length_append, List.length_map, combos_len S, List.length_cons, Nat.pow_succ]
    omega
theorem zero_combos : ∀ S, 0 ∈ combos S
  | [] => .head _
  | v :: S => List.mem_append_left _ (zero_combos S)
theorem combos_ind {P : Nat → Prop} (h0 : P 0) (hx : ∀ x y, P x → P y → P (x ^^^ y)) : ∀ S, (∀ v ∈ S, P v) → ∀ x ∈ combos S, P x
  | [], _, x, h => by
    obtain rfl := List.mem_singleton.1 h
    exact h0
  | v :: S, hS, x, h => by
    have ih := combos_ind h0 hx S fun u hu => hS u (.tail _ hu)
    rcases List.mem_append.1 h with h | h
    · exact ih x h
    · obtain ⟨y, hy, rfl⟩ := List.mem_map.1 h
      exact hx _ _ (hS v (.head _)) (ih y hy)
theorem combos_xor : ∀ S, ∀ x ∈ combos S, ∀ y ∈ combos S, x ^^^ y ∈ combos S
  | [], x, hx, y, hy => by
    obtain rfl := List.mem_singleton.1 hx
    obtain rfl := List.mem_singleton.1 hy
    exact .head _
  | v :: S, x, hx, y, hy => by
    have ih := combos_xor S
    rcases List.mem_append.1 hx with hx | hx <;> rcases List.mem_append.1 hy with hy | hy
    · exact List.mem_append_left _ (ih x hx y hy)
    · obtain ⟨y, h2, rfl⟩ := List.mem_map.1 hy
      refine List.mem_append_right _ (List.mem_map.2 ⟨x ^^^ y, ih x hx y h2, ?_⟩)
      show v ^^^ (x ^^^ y) = x ^^^ (v ^^^ y)
      rw [← Nat.xor_assoc, ← Nat.xor_assoc, Nat.xor_comm v x]
    · obtain ⟨x, h1, rfl⟩ := List.mem_map.1 hx
      refine List.mem_append_right _ (List.mem_map.2 ⟨x ^^^ y, ih x h1 y hy, ?_⟩)
      show v ^^^ (x ^^^ y) = v ^^^ x ^^^ y
      rw [Nat.xor_assoc]
    · obtain ⟨x, h1, rfl⟩ := List.mem_map.1 hx
      obtain ⟨y, h2, rfl⟩ := List.mem_map.1 hy
      have : (v ^^^ x) ^^^ (v ^^^ y) = x ^^^ y := by
        rw [Nat.xor_comm v x, Nat.xor_assoc, ← Nat.xor_assoc v v y, Nat.xor_self, Nat.zero_xor]
      show (v ^^^ x) ^^^ (v ^^^ y) ∈ _
      rw [this]
      exact List.mem_append_left _ (ih x h1 y h2)
theorem mem_combos : ∀ S, ∀ v ∈ S, v ∈ combos S
  | v :: S, u, h => by
    cases h with
    | head => exact List.mem_append_right _ (List.mem_map.2 ⟨0, zero_combos S, Nat.xor_zero v⟩)
    | tail _ h => exact List.mem_append_left _ (mem_combos S u h)
theorem combos_sub {S T : List Nat} (h : ∀ v ∈ S, v ∈ combos T) : ∀ x ∈ combos S, x ∈ combos T :=
  combos_ind (zero_combos T) (fun x y hx hy => combos_xor T x hx y hy) S h
/-- A list whose parts each own a bit that the later ones lack. -/
def Tri : List Nat → Prop
  | [] => True
  | v :: S => (∃ b, v.testBit b = true ∧ ∀ u ∈ S, u.testBit b = false) ∧ Tri S
theorem lack_combos {S : List Nat} {b : Nat} (h : ∀ u ∈ S, u.testBit b = false) : ∀ x ∈ combos S, x.testBit b = false :=
  combos_ind (Nat.zero_testBit b) (fun x y hx hy => by rw [Nat.testBit_xor, hx, hy]; rfl) S h
theorem xor_cancel {v x y : Nat} (h : v ^^^ x = v ^^^ y) : x = y := by
  have : v ^^^ (v ^^^ x) = v ^^^ (v ^^^ y) := by rw [h]
  rwa [← Nat.xor_assoc, ← Nat.xor_assoc, Nat.xor_self, Nat.zero_xor, Nat.zero_xor] at this
theorem combos_nodup : ∀ S, Tri S → (combos S).Nodup
  | [], _ => by simp [combos]
  | v :: S, ⟨⟨b, hb, hl⟩, hT⟩ => by
    have ih := combos_nodup S hT
    have hk := lack_combos hl
    refine List.nodup_append.2 ⟨ih, ?_, ?_⟩
    · show List.Pairwise _ _
      rw [List.pairwise_map]
      exact ih.imp fun hne e => hne (xor_cancel e)
    · intro x hx y hy e
      subst e
      obtain ⟨z, hz, e⟩ := List.mem_map.1 hy
      have h1 := hk x hx
      rw [← e, Nat.testBit_xor, hb, hk z hz] at h1
      cases h1
theorem nodup_le : ∀ l m : List Nat, l.Nodup → (∀ x ∈ l, x ∈ m) → l.length ≤ m.length
  | [], _, _, _ => Nat.zero_le _
  | x :: l, m, hn, hs => by
    obtain ⟨hx, hnl⟩ := List.nodup_cons.1 hn
    have hm := hs x (.head _)
    have hle := List.length_erase_of_mem hm
    have hpos := List.length_pos_of_mem hm
    have := nodup_le l (m.erase x) hnl fun y hy => (List.mem_erase_of_ne fun e => hx (by rw [← e]; exact hy)).2 (hs y (.tail _ hy))
    simp
    omega
theorem tri_le {S T : List Nat} (hS : Tri S) (h : ∀ v ∈ S, v ∈ combos T) : S.length ≤ T.length := by
  have := nodup_le _ _ (combos_nodup S hS) (combos_sub h)
  rw [combos_len, combos_len] at this
  exact (Nat.pow_le_pow_iff_right (a := 2) (by omega)).1 this
/- The program's way: a basis, each new row made small by the rows of it. -/
def redTo (n : Nat) : List Nat → Nat
  | [] => n
  | o :: B => redTo (min n (n ^^^ o)) B
def basTo (B : List Nat) : List Nat → List Nat
  | [] => B
  | n :: L => basTo (if redTo n B = 0 then B else B ++ [redTo n B]) L
theorem red_in (S : List Nat) : ∀ B n, (∀ o ∈ B, o ∈ combos S) → n ^^^ redTo n B ∈ combos S
  | [], n, _ => by
    show n ^^^ n ∈ _
    rw [Nat.xor_self]
    exact zero_combos S
  | o :: B, n, h => by
    have ih := red_in S B (min n (n ^^^ o)) fun u hu => h u (.tail _ hu)
    show n ^^^ redTo (min n (n ^^^ o)) B ∈ _
    have e : n ^^^ redTo (min n (n ^^^ o)) B = (n ^^^ min n (n ^^^ o)) ^^^ (min n (n ^^^ o) ^^^ redTo (min n (n ^^^ o)) B) := by
      rw [Nat.xor_assoc, ← Nat.xor_assoc (min n (n ^^^ o)), Nat.xor_self, Nat.zero_xor]
    rw [e]
    refine combos_xor S _ ?_ _ ih
    rcases Nat.le_total n (n ^^^ o) with hm | hm
    · rw [Nat.min_eq_left hm, Nat.xor_self]
      exact zero_combos S
    · rw [Nat.min_eq_right hm, ← Nat.xor_assoc, Nat.xor_self, Nat.zero_xor]
      exact h o (.head _)
/-- The top bit. -/
theorem top_bit {o : Nat} (h : o ≠ 0) : o.testBit o.log2 = true ∧ ∀ j, o.log2 < j → o.testBit j = false := by
  refine ⟨Nat.testBit_log2 h, fun j hj => ?_⟩
  exact Nat.testBit_lt_two_pow (Nat.lt_of_lt_of_le Nat.lt_log2_self (Nat.pow_le_pow_right (by omega) hj))
theorem lt_of_bit {a b t : Nat} (h1 : a.testBit t = false) (h2 : b.testBit t = true) (h3 : ∀ j, t < j → a.testBit j = b.testBit j) : a < b := by
  rcases Nat.lt_trichotomy a b with h | h | h
  · exact h
  · subst h; rw [h1] at h2; cases h2
  · exfalso
    have ea : a / 2 ^ (t + 1) = b / 2 ^ (t + 1) := by
      apply Nat.eq_of_testBit_eq
      intro i
      rw [Nat.testBit_div_two_pow, Nat.testBit_div_two_pow]
      exact h3 _ (by omega)
    have ha : a / 2 ^ t % 2 = 0 := by
      have := h1
      rw [Nat.testBit_eq_decide_div_mod_eq, decide_eq_false_iff_not] at this
      omega
    have hb : b / 2 ^ t % 2 = 1 := by
      have := h2
      rw [Nat.testBit_eq_decide_div_mod_eq, decide_eq_true_eq] at this
      exact this
    have ea2 : a / 2 ^ t / 2 = b / 2 ^ t / 2 := by rw [Nat.div_div_eq_div_mul, Nat.div_div_eq_div_mul, ← Nat.pow_succ]; exact ea
    have : a / 2 ^ t < b / 2 ^ t := by omega
    have := Nat.div_le_div_right (c := 2 ^ t) (Nat.le_of_lt h)
    omega
theorem min_lacks {n o t : Nat} (h1 : o.testBit t = true) (h2 : ∀ j, t < j → o.testBit j = false) : (min n (n ^^^ o)).testBit t = false := by
  have hx : (n ^^^ o).testBit t = !n.testBit t := by rw [Nat.testBit_xor, h1]; cases n.testBit t <;> rfl
  have hy : ∀ j, t < j → (n ^^^ o).testBit j = n.testBit j := fun j hj => by rw [Nat.testBit_xor, h2 j hj]; cases n.testBit j <;> rfl
  cases hn : n.testBit t with
  | true =>
    rw [hn] at hx
    have : n ^^^ o < n := lt_of_bit hx hn hy
    rw [Nat.min_eq_right (Nat.le_of_lt this)]
    exact hx
  | false =>
    rw [hn] at hx
    have : n < n ^^^ o := lt_of_bit hn hx fun j hj => (hy j hj).symm
    rw [Nat.min_eq_left (Nat.le_of_lt this)]
    exact hn
theorem red_keeps {t : Nat} : ∀ B n, n.testBit t = false → (∀ o ∈ B, o.testBit t = false) → (redTo n B).testBit t = false
  | [], _, h, _ => h
  | o :: B, n, h, hB => by
    refine red_keeps B _ ?_ fun u hu => hB u (.tail _ hu)
    rcases Nat.le_total n (n ^^^ o) with hm | hm
    · rw [Nat.min_eq_left hm]; exact h
    · rw [Nat.min_eq_right hm, Nat.testBit_xor, h, hB o (.head _)]; rfl
/-- The basis: no part is 0, and the later ones lack the top bits of the earlier ones. -/
def Bas : List Nat → Prop
  | [] => True
  | v :: S => v ≠ 0 ∧ (∀ u ∈ S, u.testBit v.log2 = false) ∧ Bas S
theorem bas_tri : ∀ S, Bas S → Tri S
  | [], _ => trivial
  | v :: S, ⟨h1, h2, h3⟩ => ⟨⟨v.log2, (top_bit h1).1, h2⟩, bas_tri S h3⟩
theorem red_lacks : ∀ B n, Bas B → ∀ o ∈ B, (redTo n B).testBit o.log2 = false
  | v :: B, n, ⟨h1, h2, h3⟩, o, ho => by
    cases ho with
    | head => exact red_keeps B _ (min_lacks (top_bit h1).1 (top_bit h1).2) h2
    | tail _ ho => exact red_lacks B _ h3 o ho
theorem bas_add : ∀ B x, Bas B → x ≠ 0 → (∀ o ∈ B, x.testBit o.log2 = false) → Bas (B ++ [x])
  | [], x, _, h, _ => ⟨h, fun u hu => (List.not_mem_nil hu).elim, trivial⟩
  | v :: B, x, ⟨h1, h2, h3⟩, h, hl => ⟨h1, fun u hu => by
      rcases List.mem_append.1 hu with hu | hu
      · exact h2 u hu
      · obtain rfl := List.mem_singleton.1 hu
        exact hl v (.head _), bas_add B x h3 h fun o ho => hl o (.tail _ ho)⟩
theorem bas_spec : ∀ (L B S : List Nat), Bas B → (∀ o ∈ B, o ∈ combos S) → (∀ n ∈ L, n ∈ combos S) →
    Bas (basTo B L) ∧ (∀ o ∈ basTo B L, o ∈ combos S) ∧ (∀ o ∈ B, o ∈ basTo B L) ∧ ∀ n ∈ L, n ∈ combos (basTo B L)
  | [], B, S, h1, h2, _ => ⟨h1, h2, fun _ h => h, fun _ h => by cases h⟩
  | n :: L, B, S, h1, h2, h3 => by
    have hr := red_in S B n h2
    have hr2 : redTo n B ∈ combos S := by
      have := combos_xor S _ (h3 n (.head _)) _ hr
      rwa [← Nat.xor_assoc, Nat.xor_self, Nat.zero_xor] at this
    by_cases h0 : redTo n B = 0
    · have e : basTo B (n :: L) = basTo B L := by show basTo (if _ then _ else _) L = _; rw [if_pos h0]
      obtain ⟨k1, k2, k3, k4⟩ := bas_spec L B S h1 h2 fun u hu => h3 u (.tail _ hu)
      rw [e]
      refine ⟨k1, k2, k3, fun u hu => ?_⟩
      cases hu with
      | head =>
        have := red_in (basTo B L) B n fun o ho => mem_combos _ o (k3 o ho)
        rwa [h0, Nat.xor_zero] at this
      | tail _ hu => exact k4 u hu
    · have e : basTo B (n :: L) = basTo (B ++ [redTo n B]) L := by show basTo (if _ then _ else _) L = _; rw [if_neg h0]
      obtain ⟨k1, k2, k3, k4⟩ := bas_spec L (B ++ [redTo n B]) S (bas_add B _ h1 h0 (red_lacks B n h1)) (fun o ho => by
        rcases List.mem_append.1 ho with ho | ho
        · exact h2 o ho
        · obtain rfl := List.mem_singleton.1 ho
          exact hr2) fun u hu => h3 u (.tail _ hu)
      rw [e]
      refine ⟨k1, k2, fun o ho => k3 o (List.mem_append_left _ ho), fun u hu => ?_⟩
      cases hu with
      | head =>
        have a := red_in (basTo (B ++ [redTo n B]) L) B n fun o ho => mem_combos _ o (k3 o (List.mem_append_left _ ho))
        have b := mem_combos _ _ (k3 (redTo n B) (List.mem_append_right _ (.head _)))
        have := combos_xor _ _ a _ b
        rwa [Nat.xor_assoc, Nat.xor_self, Nat.xor_zero] at this
      | tail _ hu => exact k4 u hu
/- The reference's way: each row that is not 0 clears its lowest bit in the later rows. -/
def lowB (x : Nat) (r : Nat) : Bool := (List.range 32).any fun b => x.testBit b && r.testBit b && (List.range b).all fun j => !x.testBit j
def clrW (own : Nat) (r : Nat) : Nat := if lowB own r then r ^^^ own else r
def pivs : Nat → List Nat → List Nat
  | 0, _ => []
  | _ + 1, [] => []
  | f + 1, own :: L => if own = 0 then pivs f L else own :: pivs f (L.map (clrW own))
theorem low_bit {x : Nat} (h : x ≠ 0) (hx : x < 2 ^ 32) : ∃ b, b < 32 ∧ x.testBit b = true ∧ ∀ j, j < b → x.testBit j = false := by
  have hex : ∃ b, x.testBit b = true := ⟨_, Nat.testBit_log2 h⟩
  have key : ∀ n, (∀ b, b < n → x.testBit b = false) ∨ ∃ b, b < n ∧ x.testBit b = true ∧ ∀ j, j < b → x.testBit j = false := by
    intro n
    induction n with
    | zero => exact .inl fun b hb => by omega
    | succ n ih =>
      rcases ih with ih | ⟨b, h1, h2, h3⟩
      · by_cases hn : x.testBit n = true
        · exact .inr ⟨n, by omega, hn, ih⟩
        · refine .inl fun b hb => ?_
          by_cases e : b = n
          · subst e
            simpa using hn
          · exact ih b (by omega)
      · exact .inr ⟨b, by omega, h2, h3⟩
  rcases key 32 with h1 | h1
  · exfalso
    apply h
    apply Nat.eq_of_testBit_eq
    intro i
    rw [Nat.zero_testBit]
    by_cases hi : i < 32
    · exact h1 i hi
    · exact Nat.testBit_lt_two_pow (Nat.lt_of_lt_of_le hx (Nat.pow_le_pow_right (by omega) (by omega)))
  · exact h1
theorem lowB_eq {x b : Nat} (hb : b < 32) (h1 : x.testBit b = true) (h2 : ∀ j, j < b → x.testBit j = false) (r : Nat) : lowB x r = r.testBit b := by
  unfold lowB
  cases hr : r.testBit b with
  | true =>
    refine List.any_eq_true.2 ⟨b, List.mem_range.2 hb, ?_⟩
    rw [h1, hr]
    simp only [Bool.true_and, Bool.and_eq_true, List.all_eq_true, List.mem_range]
    exact fun j hj => by rw [h2 j hj]; rfl
  | false =>
    rw [List.any_eq_false]
    intro j hj
    simp only [Bool.and_eq_true, List.all_eq_true, List.mem_range, not_and]
    intro ⟨k1, k2⟩ k3
    rcases Nat.lt_trichotomy j b with h | h | h
    · rw [h2 j h] at k1; cases k1
    · subst h; rw [hr] at k2; cases k2
    · have := k3 b h
      rw [h1] at this
      cases this
theorem pivs_spec : ∀ (f : Nat) (L S : List Nat), L.length ≤ f → (∀ n ∈ L, n < 2 ^ 32) → (∀ n ∈ L, n ∈ combos S) →
    Tri (pivs f L) ∧ (∀ o ∈ pivs f L, o ∈ combos L) ∧ ∀ n ∈ L, n ∈ combos (pivs f L)
  | 0, L, S, hf, _, _ => by
    obtain rfl := List.eq_nil_of_length_eq_zero (Nat.le_zero.1 hf)
    exact ⟨trivial, fun _ h => (List.not_mem_nil h).elim, fun _ h => (List.not_mem_nil h).elim⟩
  | f + 1, [], S, _, _, _ => ⟨trivial, fun _ h => (List.not_mem_nil h).elim, fun _ h => (List.not_mem_nil h).elim⟩
  | f + 1, own :: L, S, hf, hl, hS => by
    by_cases h0 : own = 0
    · subst h0
      have e : pivs (f + 1) (0 :: L) = pivs f L := by show (if _ then _ else _) = _; rw [if_pos rfl]
      obtain ⟨k1, k2, k3⟩ := pivs_spec f L S (by simp at hf; omega) (fun n hn => hl n (.tail _ hn)) fun n hn => hS n (.tail _ hn)
      rw [e]
      refine ⟨k1, fun o ho => List.mem_append_left _ (k2 o ho), fun n hn => ?_⟩
      cases hn with
      | head => exact zero_combos _
      | tail _ hn => exact k3 n hn
    · have e : pivs (f + 1) (own :: L) = own :: pivs f (L.map (clrW own)) := by show (if _ then _ else _) = _; rw [if_neg h0]
      obtain ⟨b, hb, b1, b2⟩ := low_bit h0 (hl own (.head _))
      have hlow := lowB_eq hb b1 b2
      have hown := mem_combos (own :: L) own (.head _)
      have hclr : ∀ n ∈ L, clrW own n ∈ combos (own :: L) ∧ clrW own n < 2 ^ 32 ∧ (clrW own n).testBit b = false := fun n hn => by
        have h1 := mem_combos (own :: L) n (.tail _ hn)
        unfold clrW
        rw [hlow]
        cases hnb : n.testBit b with
        | true =>
          rw [if_pos rfl]
          exact ⟨combos_xor _ _ h1 _ hown, Nat.xor_lt_two_pow (hl n (.tail _ hn)) (hl own (.head _)), by rw [Nat.testBit_xor, hnb, b1]; rfl⟩
        | false =>
          rw [if_neg (by decide)]
          exact ⟨h1, hl n (.tail _ hn), hnb⟩
      obtain ⟨k1, k2, k3⟩ := pivs_spec f (L.map (clrW own)) (own :: L) (by simp at hf; simp; omega) (fun n hn => by
        obtain ⟨m, hm, rfl⟩ := List.mem_map.1 hn
        exact (hclr m hm).2.1) fun n hn => by
        obtain ⟨m, hm, rfl⟩ := List.mem_map.1 hn
        exact (hclr m hm).1
      rw [e]
      refine ⟨⟨⟨b, b1, fun u hu => ?_⟩, k1⟩, fun o ho => ?_, fun n hn => ?_⟩
      · refine lack_combos (fun v hv => ?_) u (k2 u hu)
        obtain ⟨m, hm, rfl⟩ := List.mem_map.1 hv
        exact (hclr m hm).2.2
      · cases ho with
        | head => exact hown
        | tail _ ho =>
          refine combos_sub (fun v hv => ?_) o (k2 o ho)
          obtain ⟨m, hm, rfl⟩ := List.mem_map.1 hv
          exact (hclr m hm).1
      · cases hn with
        | head => exact mem_combos _ _ (.head _)
        | tail _ hn =>
          have h1 : clrW own n ∈ combos (own :: pivs f (L.map (clrW own))) := List.mem_append_left _ (k3 _ (List.mem_map.2 ⟨n, hn, rfl⟩))
          have h2 := mem_combos (own :: pivs f (L.map (clrW own))) own (.head _)
          unfold clrW at h1
          split at h1
          · have := combos_xor _ _ h1 _ h2
            rwa [Nat.xor_assoc, Nat.xor_self, Nat.xor_zero] at this
          · exact h1
theorem rank_eq {L : List Nat} (hl : ∀ n ∈ L, n < 2 ^ 32) : (basTo [] L).length = (pivs L.length L).length := by
  obtain ⟨a1, a2, _, a4⟩ := bas_spec L [] L trivial (fun _ h => by cases h) (mem_combos L)
  obtain ⟨b1, b2, b3⟩ := pivs_spec L.length L L (Nat.le_refl _) hl (mem_combos L)
  refine Nat.le_antisymm (tri_le (bas_tri _ a1) fun v hv => ?_) (tri_le b1 fun v hv => ?_)
  · exact combos_sub b3 v (a2 v hv)
  · exact combos_sub a4 v (b2 v hv)
end Plain
end Go.Proofs.Ytnkfghoajpghkaa
