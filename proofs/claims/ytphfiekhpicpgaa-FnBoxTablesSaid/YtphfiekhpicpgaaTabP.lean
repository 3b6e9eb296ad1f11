/- Plain facts on the tables of boxes: numbers of differences, sums of squared biases, degrees of permutations. No program. -/
import Derived.Test.YtphfiekhpicpgaaRows
import Derived.Test.YtphfiekhpicpgaaUni
import Derived.Test.YtphfiekhpicpgaaLin
import Derived.Test.YtphfiekhpicpgaaLike
set_option linter.unusedVariables false
namespace Go.Proofs.Ytphfiekhpicpgaa
open Plain
theorem sum_perm {g : Nat → Int} {l m : List Nat} (h : l.Perm m) : (l.map g).sum = (m.map g).sum := by
  induction h with
  | nil => rfl
  | cons x _ ih => simp only [List.map_cons, List.sum_cons, ih]
  | swap x y l => simp only [List.map_cons, List.sum_cons]; omega
  | trans _ _ h1 h2 => rw [h1, h2]
theorem sumF_range (f : Nat → Int) : ∀ n, sumF f n = ((List.range n).map f).sum
  | 0 => rfl
  | n + 1 => by
    rw [List.range_succ, List.map_append, List.sum_append, ← sumF_range f n]
    simp [sumF]
def pairsQ (q : Nat) : List Nat → List Nat
  | [] => []
  | i :: l => if i &&& q = 0 then i :: (i + q) :: pairsQ q l else pairsQ q l
theorem pairs_ok : ∀ t, t < 8 → (List.range 256).isPerm (pairsQ (2 ^ t) (List.range 256)) = true := by decide +kernel
theorem sum_pairs {q : Nat} {f g : Nat → Int} : ∀ l : List Nat, (∀ i ∈ l, i &&& q = 0 → g i + g (i + q) = 2 * (f i + f (i + q))) → ((pairsQ q l).map g).sum = 2 * ((pairsQ q l).map f).sum
  | [], _ => rfl
  | i :: l, h => by
    have ih := sum_pairs l fun j hj => h j (.tail _ hj)
    unfold pairsQ
    split
    · rename_i h0
      have := h i (.head _) h0
      simp only [List.map_cons, List.sum_cons, ih]
      omega
    · exact ih
theorem sumF_pairs {t : Nat} (ht : t < 8) {f g : Nat → Int} (h : ∀ i, i < 256 → i &&& 2 ^ t = 0 → g i + g (i + 2 ^ t) = 2 * (f i + f (i + 2 ^ t))) : sumF g 256 = 2 * sumF f 256 := by
  have hp := List.isPerm_iff.1 (pairs_ok t ht)
  rw [sumF_range, sumF_range, sum_perm hp, sum_perm hp]
  exact sum_pairs _ fun i hi => h i (List.mem_range.1 hi)
theorem sq_two (a b : Int) : (a + b) * (a + b) + (a - b) * (a - b) = 2 * (a * a + b * b) := by
  rw [Int.add_mul, Int.sub_mul, Int.mul_add, Int.mul_add, Int.mul_sub, Int.mul_sub, Int.mul_comm b a]
  omega
theorem energy (b : Nat → UInt8) (v : UInt8) : ∀ t, t ≤ 8 → sumF (fun i => wal b v t i * wal b v t i) 256 = 2 ^ t * 256
  | 0, _ => by
    have : (fun i => wal b v 0 i * wal b v 0 i) = fun _ => 1 := by
      funext i
      show (1 - 2 * oddI (b i &&& v)) * (1 - 2 * oddI (b i &&& v)) = 1
      rcases oddI_or (b i &&& v) with h | h <;> rw [h] <;> rfl
    rw [this]
    decide +kernel
  | t + 1, h => by
    rw [sumF_pairs (t := t) (by omega) (f := fun i => wal b v t i * wal b v t i), energy b v t (by omega), Int.pow_succ]
    · omega
    · intro i hi h0
      obtain ⟨h1, _, h2⟩ := bit_facts0 t (by omega) i hi h0
      show bf (2 ^ t) (wal b v t) i * bf (2 ^ t) (wal b v t) i + bf (2 ^ t) (wal b v t) (i + 2 ^ t) * bf (2 ^ t) (wal b v t) (i + 2 ^ t) = _
      unfold bf
      rw [if_pos h0, if_neg h2, Nat.add_sub_cancel]
      exact sq_two _ _
theorem add_eq {a b c d : Int} (h : a = c) (h2 : b = d) : a + b = c + d := by rw [h, h2]
def chi (x l : Nat) : Int := 1 - 2 * ((pop (x &&& l) % 2 : Nat) : Int)
theorem pop_high : ∀ t, t < 8 → ∀ y, y < 2 ^ t → pop (y + 2 ^ t) = pop y + 1 := by decide +kernel
theorem and_high : ∀ t, t < 8 → ∀ x, x < 2 ^ t → ∀ l, l < 2 ^ t → (x + 2 ^ t) &&& (l + 2 ^ t) = (x &&& l) + 2 ^ t ∧ (x + 2 ^ t) &&& l = x &&& l ∧ x &&& (l + 2 ^ t) = x &&& l ∧ x &&& l < 2 ^ t := by decide +kernel
theorem chi_high {t x l : Nat} (ht : t < 8) (hx : x < 2 ^ t) (hl : l < 2 ^ t) : chi (x + 2 ^ t) (l + 2 ^ t) = - chi x l ∧ chi (x + 2 ^ t) l = chi x l ∧ chi x (l + 2 ^ t) = chi x l := by
  obtain ⟨h1, h2, h3, h4⟩ := and_high t ht x hx l hl
  refine ⟨?_, by unfold chi; rw [h2], by unfold chi; rw [h3]⟩
  unfold chi
  rw [h1, pop_high t ht _ h4]
  omega
theorem low_facts : ∀ t, t < 8 → ∀ i, i < 256 → (i &&& 2 ^ t = 0 → i % 2 ^ (t + 1) = i % 2 ^ t ∧ (i + 2 ^ t) % 2 ^ t = i % 2 ^ t) ∧ (i &&& 2 ^ t ≠ 0 → i % 2 ^ (t + 1) = i % 2 ^ t + 2 ^ t ∧ 2 ^ t ≤ i - i % 2 ^ t ∧ (i - 2 ^ t) % 2 ^ t = i % 2 ^ t) ∧ i % 2 ^ t < 2 ^ t ∧ i % 2 ^ t ≤ i := by decide +kernel
theorem sumF_split (f : Nat → Int) (m : Nat) : ∀ n, sumF f (m + n) = sumF f m + sumF (fun i => f (m + i)) n
  | 0 => by simp [sumF]
  | n + 1 => by
    show sumF f (m + n) + f (m + n) = _ + (sumF _ n + f (m + n))
    rw [sumF_split f m n]
    omega
theorem sumF_congr {f g : Nat → Int} : ∀ n, (∀ i, i < n → f i = g i) → sumF f n = sumF g n
  | 0, _ => rfl
  | n + 1, h => by
    show sumF f n + f n = sumF g n + g n
    rw [sumF_congr n fun i hi => h i (by omega), h n (by omega)]
theorem sumF_neg (f : Nat → Int) : ∀ n, sumF (fun i => - f i) n = - sumF f n
  | 0 => rfl
  | n + 1 => by
    show sumF _ n + - f n = - (sumF f n + f n)
    rw [sumF_neg f n]
    omega
theorem closed_low {F : Nat → Int} {q l h : Nat} (hc : ∀ x, x < q → chi (x + q) (l + q) = - chi x l ∧ chi (x + q) l = chi x l ∧ chi x (l + q) = chi x l) :
    sumF (fun x => chi x l * F (h + x)) q + sumF (fun x => chi x l * F (h + q + x)) q = sumF (fun x => chi x l * F (h + x)) (q + q) := by
  rw [sumF_split]
  refine add_eq rfl (sumF_congr q fun x hx => ?_)
  show chi x l * F (h + q + x) = chi (q + x) l * F (h + (q + x))
  rw [Nat.add_comm q x, (hc x hx).2.1, show h + (x + q) = h + q + x by omega]
theorem closed_high {F : Nat → Int} {q l h : Nat} (hc : ∀ x, x < q → chi (x + q) (l + q) = - chi x l ∧ chi (x + q) l = chi x l ∧ chi x (l + q) = chi x l) :
    sumF (fun x => chi x l * F (h + x)) q - sumF (fun x => chi x l * F (h + q + x)) q = sumF (fun x => chi x (l + q) * F (h + x)) (q + q) := by
  rw [sumF_split, Int.sub_eq_add_neg, ← sumF_neg]
  refine add_eq ?_ ?_
  · refine sumF_congr q fun x hx => ?_
    show chi x l * F (h + x) = chi x (l + q) * F (h + x)
    rw [(hc x hx).2.2]
  · refine sumF_congr q fun x hx => ?_
    show -(chi x l * F (h + q + x)) = chi (q + x) (l + q) * F (h + (q + x))
    rw [Nat.add_comm q x, (hc x hx).1, show h + (x + q) = h + q + x by omega, Int.neg_mul]
theorem bf_closed {f F : Nat → Int} {q l h i : Nat} (hc : ∀ x, x < q → chi (x + q) (l + q) = - chi x l ∧ chi (x + q) l = chi x l ∧ chi x (l + q) = chi x l)
    (h1 : i &&& q = 0 → f i = sumF (fun x => chi x l * F (h + x)) q ∧ f (i + q) = sumF (fun x => chi x l * F (h + q + x)) q)
    (h2 : i &&& q ≠ 0 → f i = sumF (fun x => chi x l * F (h + q + x)) q ∧ f (i - q) = sumF (fun x => chi x l * F (h + x)) q) :
    bf q f i = sumF (fun x => chi x (if i &&& q = 0 then l else l + q) * F (h + x)) (q + q) := by
  unfold bf
  by_cases h0 : i &&& q = 0
  · rw [if_pos h0, if_pos h0, (h1 h0).1, (h1 h0).2]
    exact closed_low hc
  · rw [if_neg h0, if_neg h0, (h2 h0).1, (h2 h0).2]
    exact closed_high hc
def walG (F : Nat → Int) (t i : Nat) : Int := sumF (fun x => chi x (i % 2 ^ t) * F (i - i % 2 ^ t + x)) (2 ^ t)
theorem walG_eq (F : Nat → Int) {t i q l h : Nat} (hq : 2 ^ t = q) (hl : i % q = l) (hh : i - l = h) : walG F t i = sumF (fun x => chi x l * F (h + x)) q := by
  subst hq; subst hl; subst hh; rfl
theorem wal_closed (b : Nat → UInt8) (v : UInt8) {F : Nat → Int} (hF : ∀ i, wal b v 0 i = F i) : ∀ t, t ≤ 8 → ∀ i, i < 256 → wal b v t i = walG F t i
  | 0, _, i, _ => by
    rw [hF, walG_eq F (q := 1) (l := 0) (h := i) rfl (Nat.mod_one i) rfl]
    show F i = 0 + chi 0 0 * F (i + 0)
    have : chi 0 0 = 1 := by decide +kernel
    rw [this, Nat.add_zero]
    omega
  | t + 1, h, i, hi => by
    have ht : t < 8 := by omega
    obtain ⟨l1, l2, l3, l4⟩ := low_facts t ht i hi
    have hp : 2 ^ (t + 1) = 2 ^ t + 2 ^ t := by rw [Nat.pow_succ]; omega
    have hc := fun x (hx : x < 2 ^ t) => chi_high ht hx l3
    have ih := fun i hi => wal_closed b v hF t (by omega) i hi
    have b0 := bit_facts0 t ht i hi
    show bf (2 ^ t) (wal b v t) i = _
    obtain ⟨q, hq⟩ : ∃ q, 2 ^ t = q := ⟨_, rfl⟩
    rw [hq] at l1 l2 l3 l4 hp hc b0 ⊢
    rw [hp] at l1 l2
    obtain ⟨l, hl⟩ : ∃ l, i % q = l := ⟨_, rfl⟩
    rw [hl] at l1 l2 l3 l4 hc
    by_cases h0 : i &&& q = 0
    · obtain ⟨m1, m2⟩ := l1 h0
      rw [walG_eq F hp m1 (h := i - l) rfl, bf_closed (F := F) (h := i - l) hc (fun _ => ?_) (fun e => absurd h0 e), if_pos h0]
      obtain ⟨m3, _, _⟩ := b0 h0
      refine ⟨(ih i hi).trans (walG_eq F hq hl rfl), (ih _ m3).trans (walG_eq F hq m2 (by omega))⟩
    · obtain ⟨m1, m2, m3⟩ := l2 h0
      rw [walG_eq F hp m1 (h := i - (l + q)) rfl, bf_closed (F := F) (h := i - (l + q)) hc (fun e => absurd e h0) (fun _ => ?_), if_neg h0]
      refine ⟨(ih i hi).trans (walG_eq F hq hl (by omega)), (ih _ (by omega)).trans (walG_eq F hq m3 (by omega))⟩
theorem bias_sum (b : Nat → UInt8) (u v : UInt8) : ∀ k, k ≤ 256 → biasTo b u v k = sumF (fun x => chi x u.toNat * wal b v 0 x) k
  | 0, _ => rfl
  | k + 1, h => by
    show biasTo b u v k + _ = sumF _ k + chi k u.toNat * (1 - 2 * oddI (b k &&& v))
    rw [bias_sum b u v k (by omega)]
    refine add_eq rfl ?_
    have e : chi k u.toNat = 1 - 2 * oddI (UInt8.ofNat k &&& u) := by
      unfold chi oddI
      rw [UInt8.toNat_and, toNat_ofNat_lt (by omega)]
    rw [e]
    rcases oddI_or (UInt8.ofNat k &&& u) with h1 | h1 <;> rcases oddI_or (b k &&& v) with h2 | h2 <;> rw [h1, h2] <;> decide
theorem bias_wal (b : Nat → UInt8) (u v : UInt8) : biasTo b u v 256 = wal b v 8 u.toNat := by
  have hu := u.toNat_lt
  rw [wal_closed b v (fun _ => rfl) 8 (Nat.le_refl _) _ (by omega), bias_sum b u v 256 (Nat.le_refl _), walG_eq (wal b v 0) (q := 256) (l := u.toNat) (h := 0) (by decide) (Nat.mod_eq_of_lt (by omega)) (Nat.sub_self _)]
  refine sumF_congr 256 fun x hx => ?_
  rw [Nat.zero_add]
theorem parseval (b : Nat → UInt8) (v : UInt8) : sumF (fun w => biasTo b (UInt8.ofNat w) v 256 * biasTo b (UInt8.ofNat w) v 256) 256 = 65536 := by
  rw [sumF_congr (g := fun i => wal b v 8 i * wal b v 8 i) 256 fun i hi => by rw [bias_wal, toNat_ofNat_lt hi], energy b v 8 (Nat.le_refl _)]
  rfl
theorem linRun_base (a : Int) (f : Nat → Int) : ∀ k, a ≤ linRun a f k
  | 0 => Int.le_refl _
  | k + 1 => by
    have := linRun_base a f k
    unfold linRun
    omega
theorem linRun_ge (a : Int) (f : Nat → Int) : ∀ k i, i < k → f i ≤ linRun a f k ∧ - f i ≤ linRun a f k
  | k + 1, i, h => by
    unfold linRun
    by_cases e : i = k
    · subst e
      omega
    · have := linRun_ge a f k i (by omega)
      omega
theorem linTo_mono (b : Nat → UInt8) (j : Nat) : ∀ n, linTo b j ≤ linTo b (j + n)
  | 0 => Int.le_refl _
  | n + 1 => Int.le_trans (linTo_mono b j n) (linRun_base _ _ _)
theorem bias_lin (b : Nat → UInt8) (u v : UInt8) (hv : v.toNat ≠ 0) : biasTo b u v 256 ≤ linTo b 255 ∧ - biasTo b u v 256 ≤ linTo b 255 := by
  have hlt := v.toNat_lt
  obtain ⟨j, hj⟩ : ∃ j, v.toNat = j + 1 := ⟨v.toNat - 1, by omega⟩
  have ev : UInt8.ofNat (j + 1) = v := by rw [← hj]; exact UInt8.ofNat_toNat
  have h1 := linRun_ge (linTo b j) (wal b v 8) 256 u.toNat u.toNat_lt
  have h2 := linTo_mono b (j + 1) (254 - j)
  rw [show j + 1 + (254 - j) = 255 by omega] at h2
  have h3 : linTo b (j + 1) = linRun (linTo b j) (wal b v 8) 256 := by rw [← ev]; rfl
  rw [bias_wal]
  omega
theorem runMax_base (a : Int) (f : Nat → Int) : ∀ k, a ≤ runMax a f k
  | 0 => Int.le_refl _
  | k + 1 => by
    have := runMax_base a f k
    unfold runMax
    omega
theorem runMax_ge (a : Int) (f : Nat → Int) : ∀ k i, i < k → f i ≤ runMax a f k
  | k + 1, i, h => by
    unfold runMax
    by_cases e : i = k
    · subst e
      omega
    · have := runMax_ge a f k i (by omega)
      omega
theorem uniTo_mono (b : Nat → UInt8) (j : Nat) : ∀ n, uniTo b j ≤ uniTo b (j + n)
  | 0 => Int.le_refl _
  | n + 1 => Int.le_trans (uniTo_mono b j n) (runMax_base _ _ _)
theorem diff_uni (b : Nat → UInt8) (d : UInt8) (hd : d.toNat ≠ 0) {e : Nat} (he : e < 256) : diffTo b d 256 e ≤ uniTo b 255 := by
  have hlt := d.toNat_lt
  obtain ⟨j, hj⟩ : ∃ j, d.toNat = j + 1 := ⟨d.toNat - 1, by omega⟩
  have ev : UInt8.ofNat (j + 1) = d := by rw [← hj]; exact UInt8.ofNat_toNat
  have h1 := runMax_ge (uniTo b j) (diffTo b d 256) 256 e he
  have h2 := uniTo_mono b (j + 1) (254 - j)
  rw [show j + 1 + (254 - j) = 255 by omega] at h2
  have h3 : uniTo b (j + 1) = runMax (uniTo b j) (diffTo b d 256) 256 := by rw [← ev]; rfl
  omega
theorem sumF_upd (f : Nat → Int) (p : Nat) (x : Int) : ∀ n, sumF (upd f p x) n = sumF f n + if p < n then x - f p else 0
  | 0 => rfl
  | n + 1 => by
    show sumF _ n + upd f p x n = sumF f n + f n + _
    rw [sumF_upd f p x n]
    unfold upd
    by_cases e : n = p
    · subst e
      rw [if_pos rfl, if_neg (by omega), if_pos (by omega)]
      omega
    · rw [if_neg e]
      by_cases h : p < n
      · rw [if_pos h, if_pos (by omega)]; omega
      · rw [if_neg h, if_neg (by omega)]; omega
theorem diff_total (b : Nat → UInt8) (d : UInt8) : ∀ k, sumF (diffTo b d k) 256 = k
  | 0 => by
    show sumF (fun _ => 0) 256 = 0
    decide +kernel
  | k + 1 => by
    show sumF (upd _ _ _) 256 = _
    rw [sumF_upd, diff_total b d k, if_pos (UInt8.toNat_lt _)]
    omega
theorem diff_count (b : Nat → UInt8) (d : UInt8) (e : Nat) : ∀ k, diffTo b d k e = (((List.range k).filter fun x => (b x ^^^ b (UInt8.ofNat x ^^^ d).toNat).toNat == e).length : Nat)
  | 0 => rfl
  | k + 1 => by
    show upd _ _ _ e = _
    rw [List.range_succ, List.filter_append, List.length_append]
    have ih := diff_count b d e k
    unfold upd
    by_cases h : e = (b k ^^^ b (UInt8.ofNat k ^^^ d).toNat).toNat
    · rw [if_pos h, ← h, ih, List.filter_cons_of_pos (by rw [beq_iff_eq]; exact h.symm)]
      simp
    · rw [if_neg h, ih, List.filter_cons_of_neg (by rw [beq_iff_eq]; exact fun x => h x.symm)]
      simp
theorem even_len (s : Nat → Nat) : ∀ (n : Nat) (l : List Nat), l.length ≤ n → l.Nodup → (∀ x ∈ l, s x ∈ l ∧ s (s x) = x ∧ s x ≠ x) → l.length % 2 = 0
  | 0, l, hl, _, _ => by omega
  | n + 1, [], _, _, _ => rfl
  | n + 1, x :: l, hl, hn, h => by
    obtain ⟨h1, h2, h3⟩ := h x (.head _)
    have hm : s x ∈ l := (List.mem_cons.1 h1).resolve_left h3
    obtain ⟨hx, hnl⟩ := List.nodup_cons.1 hn
    have hle := List.length_erase_of_mem hm
    have hpos : 0 < l.length := List.length_pos_of_mem hm
    have ih := even_len s n (l.erase (s x)) (by simp at hl; omega) (hnl.erase _) fun y hy => by
      obtain ⟨hy1, hy2⟩ := (List.Nodup.mem_erase_iff hnl).1 hy
      obtain ⟨k1, k2, k3⟩ := h y (.tail _ hy2)
      refine ⟨(List.Nodup.mem_erase_iff hnl).2 ⟨?_, ?_⟩, k2, k3⟩
      · intro e
        apply hx
        rw [← h2, ← e, k2]
        exact hy2
      · exact (List.mem_cons.1 k1).resolve_left fun e => hy1 (by rw [← e, k2])
    simp
    omega
theorem diff_even (b : Nat → UInt8) (d : UInt8) (e : Nat) : (diffTo b d 256 e) % 2 = 0 := by
  rw [diff_count]
  have hx : ∀ x, x < 256 → (UInt8.ofNat (UInt8.ofNat x ^^^ d).toNat ^^^ d).toNat = x := fun x h => by
    rw [UInt8.ofNat_toNat, UInt8.xor_assoc, UInt8.xor_self, UInt8.xor_zero, toNat_ofNat_lt h]
  by_cases hd : d = 0
  · subst hd
    have : ∀ x, x ∈ List.range 256 → (b x ^^^ b (UInt8.ofNat x ^^^ 0).toNat).toNat = 0 := fun x h => by
      rw [UInt8.xor_zero, toNat_ofNat_lt (List.mem_range.1 h), UInt8.xor_self]; rfl
    by_cases he : e = 0
    · subst he
      rw [List.filter_eq_self.2 fun x h => by rw [this x h]; rfl]
      simp
    · rw [List.filter_eq_nil_iff.2 fun x h => by rw [this x h]; simpa using fun x => he x.symm]
      rfl
  · have := even_len (fun x => (UInt8.ofNat x ^^^ d).toNat) _ ((List.range 256).filter fun x => (b x ^^^ b (UInt8.ofNat x ^^^ d).toNat).toNat == e) (Nat.le_refl _) (List.nodup_range.filter _) fun x h => by
      obtain ⟨h1, h2⟩ := List.mem_filter.1 h
      have h3 := List.mem_range.1 h1
      refine ⟨List.mem_filter.2 ⟨List.mem_range.2 (UInt8.toNat_lt _), ?_⟩, hx x h3, ?_⟩
      · rw [hx x h3, UInt8.xor_comm]
        exact h2
      · intro e
        apply hd
        have e2 : UInt8.ofNat x ^^^ d = UInt8.ofNat x := UInt8.toNat_inj.1 (by rw [e, toNat_ofNat_lt h3])
        have e3 : UInt8.ofNat x ^^^ (UInt8.ofNat x ^^^ d) = 0 := by rw [e2, UInt8.xor_self]
        rw [← UInt8.xor_assoc, UInt8.xor_self, UInt8.zero_xor] at e3
        exact e3
    omega
theorem perm_sub : ∀ l m : List Nat, l.Nodup → (∀ x ∈ l, x ∈ m) → m.length ≤ l.length → l.Perm m
  | [], m, _, _, h => by
    have : m = [] := List.eq_nil_of_length_eq_zero (Nat.le_zero.1 h)
    rw [this]
  | x :: l, m, hn, hs, h => by
    obtain ⟨hx, hnl⟩ := List.nodup_cons.1 hn
    have hm := hs x (.head _)
    have hle := List.length_erase_of_mem hm
    refine ((perm_sub l (m.erase x) hnl (fun y hy => ?_) (by simp at h; omega)).cons x).trans (List.perm_cons_erase hm).symm
    have hne : y ≠ x := fun e => hx (e ▸ hy)
    exact (List.mem_erase_of_ne hne).2 (hs y (.tail _ hy))
def xs (b : Nat → UInt8) (a : Nat) : Nat → UInt8
  | 0 => 0
  | n + 1 => xs b a n ^^^ b (a + n)
theorem xs_split (b : Nat → UInt8) (a m : Nat) : ∀ n, xs b a (m + n) = xs b a m ^^^ xs b (a + m) n
  | 0 => by show xs b a m = xs b a m ^^^ 0; rw [UInt8.xor_zero]
  | n + 1 => by
    show xs b a (m + n) ^^^ b (a + (m + n)) = xs b a m ^^^ (xs b (a + m) n ^^^ b (a + m + n))
    rw [xs_split b a m n, UInt8.xor_assoc, Nat.add_assoc]
theorem ones_facts : ∀ t, t < 8 → ∀ i, i < 256 → (¬ (i % 2 ^ (t + 1) = 2 ^ (t + 1) - 1) ∨ (¬ i &&& 2 ^ t = 0) ∧ i % 2 ^ t = 2 ^ t - 1 ∧ (i - 2 ^ t) % 2 ^ t = 2 ^ t - 1 ∧ 2 ^ t + (2 ^ t - 1) ≤ i ∧ 2 ^ (t + 1) = 2 ^ t + 2 ^ t ∧ 0 < 2 ^ t) := by decide +kernel
theorem deg_ones (b : Nat → UInt8) : ∀ t, t ≤ 8 → ∀ i, i < 256 → i % 2 ^ t = 2 ^ t - 1 → deg b t i = xs b (i - (2 ^ t - 1)) (2 ^ t)
  | 0, _, i, _, _ => by
    show b i = 0 ^^^ b (i - 0 + 0)
    rw [UInt8.zero_xor]; rfl
  | t + 1, h, i, hi, hm => by
    obtain ⟨h1, h2, h3, h4, h5, h6⟩ := (ones_facts t (by omega) i hi).resolve_left fun h => h hm
    show xorTo (2 ^ t) (deg b t) 256 i = _
    unfold xorTo
    rw [if_pos ⟨hi, h1⟩, deg_ones b t (by omega) i hi h2, deg_ones b t (by omega) (i - 2 ^ t) (by omega) h3, h5, xs_split, UInt8.xor_comm, show i - 2 ^ t - (2 ^ t - 1) = i - (2 ^ t + 2 ^ t - 1) by omega, show i - (2 ^ t + 2 ^ t - 1) + 2 ^ t = i - (2 ^ t - 1) by omega]
theorem xs_list (b : Nat → UInt8) : ∀ n, xs b 0 n = ((List.range n).map fun i => (b i).toNat).foldl (fun a x => a ^^^ UInt8.ofNat x) 0
  | 0 => rfl
  | n + 1 => by
    show xs b 0 n ^^^ b (0 + n) = _
    rw [List.range_succ, List.map_append, List.foldl_append, ← xs_list b n, Nat.zero_add]
    show _ = _ ^^^ UInt8.ofNat (b n).toNat
    rw [UInt8.ofNat_toNat]
theorem xor_perm {l m : List Nat} (h : l.Perm m) : ∀ a : UInt8, l.foldl (fun a x => a ^^^ UInt8.ofNat x) a = m.foldl (fun a x => a ^^^ UInt8.ofNat x) a := by
  induction h with
  | nil => intro a; rfl
  | cons x _ ih => intro a; exact ih _
  | swap x y l =>
    intro a
    show l.foldl _ (a ^^^ UInt8.ofNat y ^^^ UInt8.ofNat x) = l.foldl _ (a ^^^ UInt8.ofNat x ^^^ UInt8.ofNat y)
    rw [UInt8.xor_assoc, UInt8.xor_comm (UInt8.ofNat y), ← UInt8.xor_assoc]
  | trans _ _ h1 h2 => intro a; rw [h1, h2]
theorem xor_all : (List.range 256).foldl (fun a x => a ^^^ UInt8.ofNat x) (0 : UInt8) = 0 := by decide +kernel
theorem perm_xor {b : Nat → UInt8} (hp : Perm b) : deg b 8 255 = 0 := by
  rw [deg_ones b 8 (Nat.le_refl _) 255 (by omega) rfl]
  show xs b 0 256 = 0
  rw [xs_list, xor_perm (m := List.range 256), xor_all]
  refine perm_sub _ _ ?_ (fun x hx => ?_) (by simp)
  · show List.Pairwise _ _
    rw [List.pairwise_map]
    refine List.Pairwise.imp_of_mem ?_ List.nodup_range
    intro x y hx hy hne e
    exact hne (hp x y (List.mem_range.1 hx) (List.mem_range.1 hy) (UInt8.toNat_inj.1 e))
  · obtain ⟨i, _, rfl⟩ := List.mem_map.1 hx
    exact List.mem_range.2 (UInt8.toNat_lt _)
theorem pop_seven : ∀ k, k < 255 → pop k ≤ 7 := by decide +kernel
theorem degMax_seven (c : Nat → UInt8) : ∀ k, k ≤ 255 → degMax c k ≤ 7
  | 0, _ => by simp [degMax]
  | k + 1, h => by
    have h1 := degMax_seven c k (by omega)
    have h2 := pop_seven k (by omega)
    unfold degMax
    split
    · exact h1
    · omega
theorem perm_deg {b : Nat → UInt8} (hp : permB b = true) : degMax (deg b 8) 256 ≤ 7 := by
  have h := perm_xor (perm_of hp)
  show (if deg b 8 255 = 0 then degMax (deg b 8) 255 else _) ≤ 7
  rw [if_pos h]
  exact degMax_seven _ _ (Nat.le_refl _)
end Go.Proofs.Ytphfiekhpicpgaa
