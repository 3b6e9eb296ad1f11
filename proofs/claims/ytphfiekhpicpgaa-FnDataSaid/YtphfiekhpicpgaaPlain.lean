/- Plain facts on finite maps: a map of 0..n-1 into itself hits all exactly if it is one to one. No program. -/
namespace Go.Proofs.Ytphfiekhpicpgaa.Plain

/-- f is one to one below n. -/
def Inj (n : Nat) (f : Nat → Nat) : Prop := ∀ i j, i < n → j < n → f i = f j → i = j

theorem inj_le : ∀ (n m : Nat) (f : Nat → Nat), (∀ i, i < m → f i < n) → (∀ i j, i < m → j < m → f i = f j → i = j) → m ≤ n
  | 0, m, f, hf, _ => by
    rcases Nat.eq_zero_or_pos m with h | h
    · omega
    · have := hf 0 h; omega
  | n + 1, m, f, hf, hi => by
    rcases Nat.eq_zero_or_pos m with h | hm
    · omega
    · -- g i: f i, but the value n is replaced by the value of the last place
      have hl : m - 1 < m := by omega
      have hle : m - 1 ≤ n := by
        refine inj_le n (m - 1) (fun i => if f i = n then f (m - 1) else f i) (fun i him => ?_) (fun i j him hjm he => ?_)
        · show (if f i = n then f (m - 1) else f i) < n
          have h1 := hf i (by omega)
          have h2 := hf (m - 1) hl
          split
          · rename_i hin
            have : f (m - 1) ≠ n := fun e => by
              have := hi i (m - 1) (by omega) hl (by rw [hin, e])
              omega
            omega
          · omega
        · by_cases h1 : f i = n <;> by_cases h2 : f j = n
          · exact hi i j (by omega) (by omega) (by rw [h1, h2])
          · rw [if_pos h1, if_neg h2] at he
            have := hi (m - 1) j hl (by omega) he
            omega
          · rw [if_neg h1, if_pos h2] at he
            have := hi i (m - 1) (by omega) hl he
            omega
          · rw [if_neg h1, if_neg h2] at he
            exact hi i j (by omega) (by omega) he
      omega

theorem surj_of_inj {n : Nat} {f : Nat → Nat} (hf : ∀ i, i < n → f i < n) (hi : ∀ i j, i < n → j < n → f i = f j → i = j) : ∀ v, v < n → ∃ i, i < n ∧ f i = v := by
  intro v hv
  apply Classical.byContradiction
  intro hno
  have hno' : ∀ i, i < n → f i ≠ v := fun i hin e => hno ⟨i, hin, e⟩
  have := inj_le (n - 1) n (fun i => if f i < v then f i else f i - 1) (fun i hin => by
    have h1 := hf i hin
    have h2 := hno' i hin
    show (if f i < v then f i else f i - 1) < n - 1
    split <;> omega) (fun i j hin hjn he => by
    have h1 := hno' i hin
    have h2 := hno' j hjn
    refine hi i j hin hjn ?_
    split at he <;> split at he <;> omega)
  omega

theorem inj_of_surj {n : Nat} {f : Nat → Nat} (_hf : ∀ i, i < n → f i < n) (hs : ∀ v, v < n → ∃ i, i < n ∧ f i = v) : ∀ i j, i < n → j < n → f i = f j → i = j := by
  have hg : ∃ g : Nat → Nat, ∀ v, v < n → g v < n ∧ f (g v) = v := by
    refine ⟨fun v => if h : v < n then Classical.choose (hs v h) else 0, fun v hv => ?_⟩
    simp only [hv, dif_pos]
    exact Classical.choose_spec (hs v hv)
  obtain ⟨g, hg⟩ := hg
  have gs := surj_of_inj (n := n) (f := g) (fun v hv => (hg v hv).1) (fun u v hu hv e => by
    have h1 := (hg u hu).2
    have h2 := (hg v hv).2
    rw [← h1, ← h2, e])
  intro i j hi hj he
  obtain ⟨u, hu, rfl⟩ := gs i hi
  obtain ⟨v, hv, rfl⟩ := gs j hj
  rw [(hg u hu).2, (hg v hv).2] at he
  rw [he]

/-- b is a permutation of 0..255. -/
def Perm (b : Nat → UInt8) : Prop := ∀ i j, i < 256 → j < 256 → b i = b j → i = j
def Onto (b : Nat → UInt8) : Prop := ∀ v, v < 256 → ∃ i, i < 256 ∧ (b i).toNat = v
/-- .. as a Bool that nothing opens. -/
def permB (b : Nat → UInt8) : Bool := (List.range 256).all fun i => (List.range 256).all fun j => !(b i == b j) || i == j
theorem permB_iff (b : Nat → UInt8) : permB b = true ↔ Perm b := by
  unfold permB Perm
  simp only [List.all_eq_true, List.mem_range, Bool.or_eq_true, Bool.not_eq_true', beq_eq_false_iff_ne, beq_iff_eq]
  constructor
  · intro h i j hi hj he
    rcases h i hi j hj with h | h
    · exact absurd he h
    · exact h
  · intro h i hi j hj
    by_cases he : b i = b j
    · exact Or.inr (h i j hi hj he)
    · exact Or.inl he
theorem permB_true {b : Nat → UInt8} (h : Perm b) : permB b = true := (permB_iff b).2 h
theorem permB_false {b : Nat → UInt8} (h : ¬ Perm b) : permB b = false := by
  cases hp : permB b with
  | false => rfl
  | true => exact absurd ((permB_iff b).1 hp) h
theorem perm_of {b : Nat → UInt8} (h : permB b = true) : Perm b := (permB_iff b).1 h
theorem not_perm_of {b : Nat → UInt8} (h : permB b = false) : ¬ Perm b := fun hp => by rw [permB_true hp] at h; cases h
theorem onto_iff (b : Nat → UInt8) : Onto b ↔ Perm b := by
  have hlt : ∀ i, i < 256 → (b i).toNat < 256 := fun i _ => (b i).toNat_lt
  constructor
  · intro h i j hi hj he
    exact inj_of_surj (n := 256) (f := fun i => (b i).toNat) hlt h i j hi hj (by simp [he])
  · intro h
    exact surj_of_inj (n := 256) (f := fun i => (b i).toNat) hlt fun i j hi hj he => h i j hi hj (UInt8.toNat_inj.mp he)
/-- The first place below n at which s is v, or -1. -/
def idxB (s : Nat → Bool) (v : Bool) : Nat → Int
  | 0 => -1
  | n + 1 => if 0 ≤ idxB s v n then idxB s v n else if s n = v then (n : Int) else -1
theorem idxB_none {s : Nat → Bool} {v : Bool} : ∀ {n : Nat}, (∀ i, i < n → s i ≠ v) → idxB s v n = -1
  | 0, _ => rfl
  | n + 1, h => by
    have h1 := idxB_none (n := n) fun i hi => h i (by omega)
    unfold idxB
    rw [h1, if_neg (by omega), if_neg (h n (by omega))]
theorem idxB_stays {s : Nat → Bool} {v : Bool} {k : Nat} (hk : (idxB s v k : Int) = (k : Int) - 1 ∧ 0 < k) : ∀ n, idxB s v (k + n) = (k : Int) - 1
  | 0 => hk.1
  | n + 1 => by
    have h1 := idxB_stays hk n
    rw [Nat.add_succ]
    unfold idxB
    rw [h1, if_pos (by omega)]
theorem idxB_hit {s : Nat → Bool} {v : Bool} {k n : Nat} (h : ∀ i, i < k → s i ≠ v) (hk : s k = v) (hn : k < n) : idxB s v n = (k : Int) := by
  have h1 : idxB s v (k + 1) = ((k + 1 : Nat) : Int) - 1 := by
    unfold idxB
    rw [idxB_none h, if_neg (by omega), if_pos hk]
    omega
  have h2 := idxB_stays ⟨h1, by omega⟩ (n - (k + 1))
  rw [show k + 1 + (n - (k + 1)) = n by omega] at h2
  omega
/-- What of the values has come below k. -/
def metB (b : Nat → UInt8) : Nat → Nat → Bool
  | 0, _ => false
  | k + 1, v => (b k).toNat == v || metB b k v
theorem metB_iff (b : Nat → UInt8) (v : Nat) : ∀ k, metB b k v = true ↔ ∃ i, i < k ∧ (b i).toNat = v
  | 0 => by simp [metB]
  | k + 1 => by
    unfold metB
    rw [Bool.or_eq_true, metB_iff b v k, beq_iff_eq]
    constructor
    · rintro (h | ⟨i, hi, h⟩)
      · exact ⟨k, by omega, h⟩
      · exact ⟨i, by omega, h⟩
    · rintro ⟨i, hi, h⟩
      by_cases hik : i = k
      · subst hik; exact Or.inl h
      · exact Or.inr ⟨i, by omega, h⟩
theorem metB_false {b : Nat → UInt8} {v k : Nat} : metB b k v = false ↔ ∀ i, i < k → (b i).toNat ≠ v := by
  rw [← Bool.not_eq_true, metB_iff]
  constructor
  · intro h i hi e; exact h ⟨i, hi, e⟩
  · rintro h ⟨i, hi, e⟩; exact h i hi e
/-- All values below k differ. -/
def DistTo (b : Nat → UInt8) (k : Nat) : Prop := ∀ i j, i < j → j < k → b i ≠ b j
theorem dist_zero (b : Nat → UInt8) : DistTo b 0 := fun _ _ _ h => absurd h (Nat.not_lt_zero _)
theorem dist_succ {b : Nat → UInt8} {k : Nat} (h : DistTo b k) (hm : metB b k (b k).toNat = false) : DistTo b (k + 1) := by
  intro i j hij hj he
  by_cases hjk : j = k
  · subst hjk
    exact (metB_false.1 hm) i hij (by rw [he])
  · exact h i j hij (by omega) he
theorem perm_of_dist {b : Nat → UInt8} (h : DistTo b 256) : Perm b := by
  intro i j hi hj he
  rcases Nat.lt_trichotomy i j with hl | hl | hl
  · exact absurd he (h i j hl hj)
  · exact hl
  · exact absurd he.symm (h j i hl hi)
theorem not_perm_of_met {b : Nat → UInt8} {k : Nat} (hk : k < 256) (hm : metB b k (b k).toNat = true) : ¬ Perm b := by
  intro h
  obtain ⟨i, hi, e⟩ := (metB_iff _ _ _).1 hm
  have := h i k (by omega) hk (UInt8.toNat_inj.mp e)
  omega
theorem contains_perm (b : Nat → UInt8) : (!decide ((0 : Int) ≤ idxB (metB b 256) false 256)) = permB b := by
  by_cases h : Perm b
  · have ho := (onto_iff b).2 h
    rw [permB_true h, idxB_none (fun v hv e => by
      obtain ⟨i, hi, e'⟩ := ho v hv
      exact metB_false.1 e i hi e')]
    rfl
  · rw [permB_false h]
    have hno : ¬ Onto b := fun ho => h ((onto_iff b).1 ho)
    have : ∃ v, v < 256 ∧ metB b 256 v = false := by
      apply Classical.byContradiction
      intro hc
      refine hno fun v hv => (metB_iff b v 256).1 ?_
      cases hm : metB b 256 v with
      | true => rfl
      | false => exact absurd ⟨v, hv, hm⟩ hc
    obtain ⟨v, hv, hm⟩ := this
    have hle : (0 : Int) ≤ idxB (metB b 256) false 256 := by
      apply Classical.byContradiction
      intro hneg
      have hall : ∀ n, n ≤ 256 → idxB (metB b 256) false n < 0 → ∀ i, i < n → metB b 256 i ≠ false := by
        intro n
        induction n with
        | zero => intro _ _ i hi; omega
        | succ n ih =>
          intro hn hlt i hi
          unfold idxB at hlt
          by_cases h0 : 0 ≤ idxB (metB b 256) false n
          · rw [if_pos h0] at hlt; omega
          · rw [if_neg h0] at hlt
            by_cases h1 : metB b 256 n = false
            · rw [if_pos h1] at hlt; omega
            · by_cases hin : i = n
              · subst hin; exact h1
              · exact ih (by omega) (by omega) i (by omega)
      exact hall 256 (Nat.le_refl _) (by omega) v hv hm
    simp [hle]
/-- The inverse of a box, as far as k values have been laid. -/
def invTo (b : Nat → UInt8) : Nat → Nat → UInt8
  | 0 => fun _ => 0
  | k + 1 => fun i => if i = (b k).toNat then UInt8.ofNat k else invTo b k i
def invOf (b : Nat → UInt8) : Nat → UInt8 := invTo b 256
def thenOf (b c : Nat → UInt8) : Nat → UInt8 := fun x => c (b x).toNat
/-- The inverse of a permutation, and zeros of whatever else. -/
def invBox (b : Nat → UInt8) : Nat → UInt8 := if permB b = true then invOf b else fun _ => 0
def invCode (b : Nat → UInt8) : Int := if permB b = true then 0 else 5
/-- How many ones are among the lowest f digits of x. -/
def popF : Nat → Nat → Nat
  | 0, _ => 0
  | f + 1, x => x % 2 + popF f (x / 2)
theorem popF_zero : ∀ f, popF f 0 = 0
  | 0 => rfl
  | f + 1 => by unfold popF; rw [show 0 / 2 = 0 from rfl, popF_zero f]
theorem popF_more : ∀ (f x : Nat), x < 2 ^ f → popF (f + 1) x = popF f x
  | 0, x, h => by have : x = 0 := by omega
                  subst this; rfl
  | f + 1, x, h => by
    rw [popF, popF_more f (x / 2) (by rw [Nat.pow_succ] at h; omega)]
    rfl
def pop (x : Nat) : Nat := popF 64 x
theorem pop_step {x : Nat} (h : x < 2 ^ 64) : pop x = x % 2 + pop (x / 2) := by
  unfold pop
  rw [← popF_more 64 x h, popF]
theorem pop_zero : pop 0 = 0 := popF_zero 64
theorem popF_le : ∀ f x, popF f x ≤ f
  | 0, _ => Nat.le_refl _
  | f + 1, x => by unfold popF; have := popF_le f (x / 2); omega
theorem pop_small : ∀ (f x : Nat), x < 2 ^ f → popF 64 x ≤ f
  | 0, x, h => by have : x = 0 := by omega
                  subst this; rw [popF_zero]; omega
  | f + 1, x, h => by
    by_cases h64 : f + 1 ≤ 63
    · have hp : x < 2 ^ 64 := Nat.lt_of_lt_of_le h (Nat.pow_le_pow_right (by omega) (by omega))
      have h1 := pop_step hp
      unfold pop at h1
      rw [h1]
      have := pop_small f (x / 2) (by rw [Nat.pow_succ] at h; omega)
      omega
    · have := popF_le 64 x
      omega
theorem pop_byte (x : UInt8) : pop x.toNat ≤ 8 := pop_small 8 _ x.toNat_lt
/-- 1 if an odd number of digits is 1, else 0. -/
def oddI (x : UInt8) : Int := ((pop x.toNat % 2 : Nat) : Int)
theorem oddI_or (x : UInt8) : oddI x = 0 ∨ oddI x = 1 := by unfold oddI; omega
/-- The bias, summed up to place k. -/
def biasTo (b : Nat → UInt8) (u v : UInt8) : Nat → Int
  | 0 => 0
  | k + 1 => biasTo b u v k + (if oddI (UInt8.ofNat k &&& u) = oddI (b k &&& v) then 1 else -1)
theorem biasTo_le (b : Nat → UInt8) (u v : UInt8) : ∀ k : Nat, -(k : Int) ≤ biasTo b u v k ∧ biasTo b u v k ≤ k
  | 0 => by simp [biasTo]
  | k + 1 => by
    have := biasTo_le b u v k
    unfold biasTo
    split <;> omega
theorem and_comm8 (x y : UInt8) : x &&& y = y &&& x := UInt8.and_comm x y
theorem max_ite (a b : Int) : max a b = if a < b then b else a := by split <;> omega
theorem maxI_le {a b c : Int} (h1 : a ≤ c) (h2 : b ≤ c) : max a b ≤ c := by omega
/- The degree of a box: sums by ^ over all that lies within a place. -/
theorem bit_facts : ∀ t, t < 8 → ∀ k, k < 256 → k &&& 2 ^ t ≠ 0 → 2 ^ t ≤ k ∧ (k - 2 ^ t) &&& 2 ^ t = 0 ∧ k ^^^ 2 ^ t = k - 2 ^ t := by decide +kernel
theorem bit_facts0 : ∀ t, t < 8 → ∀ k, k < 256 → k &&& 2 ^ t = 0 → k + 2 ^ t < 256 ∧ k ||| 2 ^ t = k + 2 ^ t ∧ (k + 2 ^ t) &&& 2 ^ t ≠ 0 := by decide +kernel
theorem pow_small {t : Nat} (h : t < 8) : 1 ≤ 2 ^ t ∧ 2 ^ t ≤ 128 := by
  have h1 : 0 < 2 ^ t := Nat.pow_pos (by omega)
  have h2 : 2 ^ t ≤ 2 ^ 7 := Nat.pow_le_pow_right (by omega) (by omega)
  exact ⟨h1, h2⟩
def xorTo (s : Nat) (b : Nat → UInt8) (k i : Nat) : UInt8 := if i < k ∧ i &&& s ≠ 0 then b i ^^^ b (i - s) else b i
theorem xorTo_zero (s : Nat) (b : Nat → UInt8) (i : Nat) : xorTo s b 0 i = b i := by simp [xorTo]
theorem xorTo_at (s : Nat) (b : Nat → UInt8) (k : Nat) : xorTo s b k k = b k := by simp [xorTo]
theorem xorTo_low {s k : Nat} (b : Nat → UInt8) (h : (k - s) &&& s = 0) : xorTo s b k (k - s) = b (k - s) := by simp [xorTo, h]
theorem xorTo_hit {s k : Nat} (b : Nat → UInt8) (h : k &&& s ≠ 0) (i : Nat) : (if i = k then b k ^^^ b (k - s) else xorTo s b k i) = xorTo s b (k + 1) i := by
  unfold xorTo
  by_cases hi : i = k
  · subst hi
    rw [if_pos rfl, if_pos ⟨by omega, h⟩]
  · rw [if_neg hi]
    by_cases h2 : i < k ∧ i &&& s ≠ 0
    · rw [if_pos h2, if_pos ⟨by omega, h2.2⟩]
    · rw [if_neg h2, if_neg (fun h3 => h2 ⟨by omega, h3.2⟩)]
theorem xorTo_miss {s k : Nat} (b : Nat → UInt8) (h : k &&& s = 0) (i : Nat) : xorTo s b k i = xorTo s b (k + 1) i := by
  unfold xorTo
  by_cases h2 : i < k ∧ i &&& s ≠ 0
  · rw [if_pos h2, if_pos ⟨by omega, h2.2⟩]
  · rw [if_neg h2, if_neg (fun h3 => h2 ⟨by
      have : i ≠ k := fun e => h3.2 (by rw [e]; exact h)
      omega, h3.2⟩)]
/-- Behind t passes. -/
def deg (b : Nat → UInt8) : Nat → Nat → UInt8
  | 0 => b
  | t + 1 => xorTo (2 ^ t) (deg b t) 256
def degMax (c : Nat → UInt8) : Nat → Int
  | 0 => 0
  | k + 1 => if c k = 0 then degMax c k else max (degMax c k) (pop k)
theorem degMax_le (c : Nat → UInt8) : ∀ k, k ≤ 256 → 0 ≤ degMax c k ∧ degMax c k ≤ 8
  | 0, _ => by simp [degMax]
  | k + 1, h => by
    have h1 := degMax_le c k (by omega)
    have h2 := pop_small 8 k (by omega)
    have h3 : pop k ≤ 8 := h2
    unfold degMax
    split
    · exact h1
    · omega
/- Places: sixteen numbers below 16, all different. -/
def diffB (b : Nat → UInt8) (n : Nat) : Bool := (List.range n).all fun j => (List.range j).all fun i => !(b i == b j)
theorem diffB_iff (b : Nat → UInt8) (n : Nat) : diffB b n = true ↔ DistTo b n := by
  unfold diffB DistTo
  simp only [List.all_eq_true, List.mem_range, Bool.not_eq_true', beq_eq_false_iff_ne]
  constructor
  · intro h i j hij hj; exact h j hj i hij
  · intro h j hj i hij; exact h i j hij hj
theorem diffB_true {b : Nat → UInt8} {n : Nat} (h : DistTo b n) : diffB b n = true := (diffB_iff b n).2 h
theorem diffB_false {b : Nat → UInt8} {n : Nat} (h : ¬ DistTo b n) : diffB b n = false := by
  cases hp : diffB b n with
  | false => rfl
  | true => exact absurd ((diffB_iff b n).1 hp) h
theorem not_dist_of_met {b : Nat → UInt8} {k n : Nat} (hk : k < n) (hm : metB b k (b k).toNat = true) : ¬ DistTo b n := by
  intro h
  obtain ⟨i, hi, e⟩ := (metB_iff _ _ _).1 hm
  exact h i k hi hk (UInt8.toNat_inj.mp e)
def SmallTo (p : Nat → UInt8) (n : Nat) : Prop := ∀ i, i < n → (p i).toNat < 16
theorem small_succ {p : Nat → UInt8} {k : Nat} (h : SmallTo p k) (hk : (p k).toNat < 16) : SmallTo p (k + 1) := fun i hi => by
  by_cases e : i = k
  · subst e; exact hk
  · exact h i (by omega)
def placesB (p : Nat → UInt8) : Bool := ((List.range 16).all fun i => decide ((p i).toNat < 16)) && diffB p 16
theorem placesB_iff (p : Nat → UInt8) : placesB p = true ↔ SmallTo p 16 ∧ DistTo p 16 := by
  unfold placesB SmallTo
  rw [Bool.and_eq_true, diffB_iff]
  simp only [List.all_eq_true, List.mem_range, decide_eq_true_eq]
theorem placesB_true {p : Nat → UInt8} (h : SmallTo p 16) (h2 : DistTo p 16) : placesB p = true := (placesB_iff p).2 ⟨h, h2⟩
theorem placesB_big {p : Nat → UInt8} {k : Nat} (hk : k < 16) (h : 16 ≤ (p k).toNat) : placesB p = false := by
  cases hp : placesB p with
  | false => rfl
  | true => have := ((placesB_iff p).1 hp).1 k hk; omega
theorem placesB_met {p : Nat → UInt8} {k : Nat} (hk : k < 16) (hm : metB p k (p k).toNat = true) : placesB p = false := by
  cases hp : placesB p with
  | false => rfl
  | true => exact absurd ((placesB_iff p).1 hp).2 (not_dist_of_met hk hm)
theorem placesB_small {p : Nat → UInt8} (h : SmallTo p 16) : placesB p = diffB p 16 := by
  cases hd : diffB p 16 with
  | true => exact placesB_true h ((diffB_iff _ _).1 hd)
  | false =>
    cases hp : placesB p with
    | false => rfl
    | true => rw [diffB_true ((placesB_iff p).1 hp).2] at hd; cases hd
theorem places_of {p : Nat → UInt8} (h : placesB p = true) : SmallTo p 16 ∧ DistTo p 16 := (placesB_iff p).1 h
def xorOf (a b : Nat → UInt8) : Nat → UInt8 := fun i => a i ^^^ b i
/- Hex texts. -/
def hexC (n : Nat) : UInt8 := if n < 10 then UInt8.ofNat (48 + n) else UInt8.ofNat (87 + n)
def hexL (b : Nat → UInt8) : Nat → List UInt8
  | 0 => []
  | k + 1 => hexL b k ++ [hexC ((b k).toNat / 16), hexC ((b k).toNat % 16)]
theorem hexL_length (b : Nat → UInt8) : ∀ k, (hexL b k).length = 2 * k
  | 0 => rfl
  | k + 1 => by unfold hexL; rw [List.length_append, hexL_length b k]; simp; omega
def hexS (b : Nat → UInt8) (n : Nat) : ByteArray := ⟨(hexL b n).toArray⟩
end Go.Proofs.Ytphfiekhpicpgaa.Plain
