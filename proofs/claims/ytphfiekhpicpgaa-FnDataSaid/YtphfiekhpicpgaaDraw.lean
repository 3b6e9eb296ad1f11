/- A region that draws its order and whose operations are: quiet ones, each of one value; one block made; one whole store into that block. No program, no condition. -/
import Derived.Test.YtphfiekhpicpgaaKit
import Derived.Deep.DeepCutAuto
namespace Go.Proofs.Ytphfiekhpicpgaa
open Go.RowKit
/-- The slots of a region's operations differ and lie within n. -/
def dstOK (ops : Array Oper) (n : Nat) : Bool := (List.range ops.size).all fun i => match ops[i]? with
  | some o => match o.dst with
    | some d => decide (d < n) && (List.range ops.size).all fun j => match ops[j]? with
      | some p => decide (i = j) || decide (p.dst ≠ some d)
      | none => true
    | none => true
  | none => true
theorem dstOK_lt {ops : Array Oper} {n : Nat} (h : dstOK ops n = true) {i d : Nat} {o : Oper} (ho : ops[i]? = some o) (hd : o.dst = some d) : d < n := by
  have hi : i < ops.size := (Array.getElem?_eq_some_iff.1 ho).1
  have h1 := List.all_eq_true.1 h i (List.mem_range.2 hi)
  simp only [ho, hd, Bool.and_eq_true, decide_eq_true_eq] at h1
  exact h1.1
theorem dstOK_eq {ops : Array Oper} {n : Nat} (h : dstOK ops n = true) {i j d : Nat} {o p : Oper} (ho : ops[i]? = some o) (hd : o.dst = some d) (hp : ops[j]? = some p) (hpd : p.dst = some d) : i = j := by
  have hi : i < ops.size := (Array.getElem?_eq_some_iff.1 ho).1
  have hj : j < ops.size := (Array.getElem?_eq_some_iff.1 hp).1
  have h1 := List.all_eq_true.1 h i (List.mem_range.2 hi)
  simp only [ho, hd, Bool.and_eq_true] at h1
  have h2 := List.all_eq_true.1 h1.2 j (List.mem_range.2 hj)
  simp only [hp, hpd, Bool.or_eq_true, decide_eq_true_eq] at h2
  exact h2.resolve_right (fun e => e rfl)
theorem put_tmps (a : Act) (d : Option Nat) (v : Value) (j : Nat) (h : ∀ k, d = some k → k < a.tmps.size) : (a.put d v).tmps.getD j undef = if d = some j then v else a.tmps.getD j undef := by
  cases d with
  | none => rw [if_neg (by simp)]; rfl
  | some k =>
    have hk := h k rfl
    show (a.tmps.setIfInBounds k v).getD j undef = _
    rw [Array.getD_eq_getD_getElem?, Array.getElem?_setIfInBounds, Array.getD_eq_getD_getElem?]
    by_cases hkj : k = j
    · subst hkj; simp [hk]
    · simp [hkj]
theorem put_size (a : Act) (d : Option Nat) (v : Value) : (a.put d v).tmps.size = a.tmps.size := by
  cases d <;> simp [Act.put]
theorem put_defers (a : Act) (d : Option Nat) (v : Value) : (a.put d v).defers = a.defers := by
  cases d <;> rfl
def lexAny (ops : Array Oper) : Bool := (List.range ops.size).all fun i => match ops[i]? with
  | some o => o.after.all fun e => !Region.binds .any e || decide (e.on < i)
  | none => true
theorem all_any {ops : Array Oper} {listed : Array Bool} (hs : listed.size = ops.size) (hl : lexAny ops = true) (h : Region.ready .any ops listed = []) : ∀ i, i < ops.size → listed.getD i false = true := by
  intro i
  induction i using Nat.strongRecOn with
  | _ i ih =>
    intro hi
    cases hg : listed.getD i false with
    | true => rfl
    | false =>
      have ho : ops[i]? = some ops[i] := Array.getElem?_eq_getElem hi
      have hlx := List.all_eq_true.1 hl i (List.mem_range.2 hi)
      rw [ho] at hlx
      have hmem : i ∈ Region.ready .any ops listed := by
        rw [mem_ready]
        refine ⟨?_, ops[i], ho, fun e he hb => ?_⟩
        · rw [Array.getD_eq_getD_getElem?] at hg ⊢
          rw [Array.getElem?_eq_getElem (by omega)] at hg ⊢
          exact hg
        · have := Array.all_eq_true_iff_forall_mem.1 hlx e he
          rw [hb] at this
          have hlt : e.on < i := by simpa using this
          exact ih e.on hlt (by omega)
      rw [h] at hmem
      cases hmem
structure DrawInv (ops : Array Oper) (a0 : Act) (w0 : World) (vals : Nat → Value) (m s dm : Nat) (t : TypeId) (zero final : Array Value) (listed : Array Bool) (a : Act) (w : World) : Prop where
  size : listed.size = ops.size
  defers : a.defers = a0.defers
  len : a.tmps.size = a0.tmps.size
  out : ∀ j, (∀ (i : Nat) (o : Oper), ops[i]? = some o → o.dst ≠ some j) → a.tmps.getD j undef = a0.tmps.getD j undef
  got : ∀ (i : Nat) (o : Oper) (d : Nat), ops[i]? = some o → listed.getD i false = true → o.dst = some d → i ≠ m → a.tmps.getD d undef = vals i
  bel : Below w0.heap.size w0 w
  ord : listed.getD s false = true → listed.getD m false = true
  own : listed.getD m false = true → ∃ g, a.tmps.getD dm undef = .pointer (some ⟨g, 0, none⟩) ∧ w0.heap.size ≤ g ∧ Blk w g t (if listed.getD s false = true then final else zero)
/-- What an operation may lean on. -/
structure DrawCtx (ops : Array Oper) (a0 : Act) (w0 : World) (vals : Nat → Value) (m : Nat) (o : Oper) (a : Act) (w : World) : Prop where
  out : ∀ j, (∀ (i : Nat) (o : Oper), ops[i]? = some o → o.dst ≠ some j) → a.tmps.getD j undef = a0.tmps.getD j undef
  got : ∀ e ∈ o.after, ∀ (p : Oper) (d : Nat), Region.binds .any e = true → ops[e.on]? = some p → p.dst = some d → e.on ≠ m → a.tmps.getD d undef = vals e.on
  bel : Below w0.heap.size w0 w
def putAll (a : Act) : List (Option Tmp × Value) → Act
  | [] => a
  | (d, v) :: r => putAll (a.put d v) r
theorem putAll_size : ∀ (l : List (Option Tmp × Value)) (a : Act), (putAll a l).tmps.size = a.tmps.size
  | [], _ => rfl
  | (d, v) :: r, a => (putAll_size r _).trans (put_size a d v)
theorem putAll_defers : ∀ (l : List (Option Tmp × Value)) (a : Act), (putAll a l).defers = a.defers
  | [], _ => rfl
  | (d, v) :: r, a => (putAll_defers r _).trans (put_defers a d v)
theorem putAll_get : ∀ (l : List (Option Tmp × Value)) (a : Act) (j : Nat), (∀ k v, (some k, v) ∈ l → k < a.tmps.size) → (∀ v v', (some j, v) ∈ l → (some j, v') ∈ l → v = v') →
    (∀ v, (some j, v) ∈ l → (putAll a l).tmps.getD j undef = v) ∧ ((∀ v, (some j, v) ∉ l) → (putAll a l).tmps.getD j undef = a.tmps.getD j undef)
  | [], _, _, _, _ => ⟨fun v h => (by cases h), fun _ => rfl⟩
  | (d, u) :: r, a, j, hs, hc => by
    have ih := putAll_get r (a.put d u) j (fun k v hm => by rw [put_size]; exact hs k v (.tail _ hm)) (fun v v' h1 h2 => hc v v' (.tail _ h1) (.tail _ h2))
    have hp := put_tmps a d u j (fun k hk => hs k u (by rw [← hk]; exact .head _))
    refine ⟨fun v hm => ?_, fun hn => ?_⟩
    · by_cases hr : ∃ v', (some j, v') ∈ r
      · obtain ⟨v', hr⟩ := hr
        rw [hc v v' hm (.tail _ hr)]
        exact ih.1 v' hr
      · have hn : ∀ v', (some j, v') ∉ r := fun v' h => hr ⟨v', h⟩
        refine (ih.2 hn).trans ?_
        rcases List.mem_cons.1 hm with e | h
        · obtain ⟨rfl, rfl⟩ := Prod.mk.inj e
          rw [hp, if_pos rfl]
        · exact absurd h (hn v)
    · refine (ih.2 (fun v h => hn v (.tail _ h))).trans ?_
      rw [hp, if_neg (fun e => hn u (by rw [e]; exact .head _))]
theorem act_ext {a b : Act} (hd : a.defers = b.defers) (hs : a.tmps.size = b.tmps.size) (h : ∀ j, a.tmps.getD j undef = b.tmps.getD j undef) : a = b := by
  obtain ⟨ta, da⟩ := a
  obtain ⟨tb, db⟩ := b
  obtain rfl : da = db := hd
  have : ta = tb := by
    apply Array.ext hs
    intro i h1 h2
    have := h i
    simp only [Array.getD_eq_getD_getElem?, Array.getElem?_eq_getElem h1, Array.getElem?_eq_getElem h2, Option.getD_some] at this
    exact this
  rw [this]
def drawL (ops : Array Oper) (vals : Nat → Value) (m g : Nat) : List (Option Tmp × Value) :=
  (List.range ops.size).map fun i => ((ops[i]?).bind (·.dst), if i = m then .pointer (some ⟨g, 0, none⟩) else vals i)
theorem drawL_mem {ops : Array Oper} {vals : Nat → Value} {m g j : Nat} {v : Value} (h : (some j, v) ∈ drawL ops vals m g) :
    ∃ (i : Nat) (o : Oper), ops[i]? = some o ∧ o.dst = some j ∧ v = (if i = m then .pointer (some ⟨g, 0, none⟩) else vals i) := by
  obtain ⟨i, hi, e⟩ := List.mem_map.1 h
  obtain ⟨e1, e2⟩ := Prod.mk.inj e
  cases ho : ops[i]? with
  | none => rw [ho] at e1; cases e1
  | some o => rw [ho] at e1; exact ⟨i, o, ho, e1, e2.symm⟩
def Each (Pr : Nat → Oper → Prop) : Nat → List Oper → Prop
  | _, [] => True
  | i, o :: r => Pr i o ∧ Each Pr (i + 1) r
theorem each_nil {Pr : Nat → Oper → Prop} {i : Nat} : Each Pr i [] := trivial
theorem each_cons {Pr : Nat → Oper → Prop} {i : Nat} {o : Oper} {r : List Oper} (h : Pr i o) (h2 : Each Pr (i + 1) r) : Each Pr i (o :: r) := ⟨h, h2⟩
theorem each_get {Pr : Nat → Oper → Prop} : ∀ (l : List Oper) (i : Nat), Each Pr i l → ∀ (k : Nat) (o : Oper), l[k]? = some o → Pr (i + k) o
  | [], _, _, k, o, h => by simp at h
  | x :: r, i, h, 0, o, h2 => by
    obtain rfl : x = o := by simpa using h2
    exact h.1
  | x :: r, i, h, k + 1, o, h2 => by
    have := each_get r (i + 1) h.2 k o (by simpa using h2)
    rwa [show i + 1 + k = i + (k + 1) by omega] at this
theorem wp_region_draw {P : Program} {id : Nat} {ops : Array Oper} {Q : Exit → Act → World → Prop} {a0 : Act} {w0 : World} (hm : P.follows .mixedOrders = true)
    (vals : Nat → Value) (m s dm : Nat) (t : TypeId) (zero final : Array Value) (hok : dstOK ops a0.tmps.size = true) (hlex : lexAny ops = true)
    (hgd : (ops.all fun o => o.guard.isNone) = true)
    {om os : Oper} (hom : ops[m]? = some om) (homd : om.dst = some dm) (hos : ops[s]? = some os) (hosd : os.dst = none) (hms : m ≠ s)
    (hsm : (os.after.any fun e => decide (e.on = m) && Region.binds .any e) = true)
    (hop : Each (fun i o => i ≠ m → i ≠ s → ∀ a w, DrawCtx ops a0 w0 vals m o a w → o.wp P a w (fun a' w' => a' = a.put o.dst (vals i) ∧ Below w.heap.size w w') Q) 0 ops.toList)
    (halloc : ∀ a w, om.wp P a w (fun a' w' => a' = a.put om.dst (.pointer (some ⟨w.heap.size, 0, none⟩)) ∧ w' = w.alloc (.cells zero t)) Q)
    (hstore : ∀ a w g, DrawCtx ops a0 w0 vals m os a w → a.tmps.getD dm undef = .pointer (some ⟨g, 0, none⟩) → Blk w g t zero → os.wp P a w (fun a' w' => a' = a ∧ w' = w.setRow g final) Q)
    (L : Nat → List (Option Tmp × Value)) (hL : ∀ g, drawL ops vals m g = L g)
    (fin : ∀ w g, w0.heap.size ≤ g → Blk w g t final → Below w0.heap.size w0 w → Q .normal (putAll a0 (L g)) w) : (Code.region id ops true).wp P Q a0 w0 := by
  have hop : ∀ (i : Nat) (o : Oper), ops[i]? = some o → i ≠ m → i ≠ s → ∀ a w, DrawCtx ops a0 w0 vals m o a w → o.wp P a w (fun a' w' => a' = a.put o.dst (vals i) ∧ Below w.heap.size w w') Q := fun i o ho => by
    have := each_get ops.toList 0 hop i o (by simpa using ho)
    rwa [Nat.zero_add] at this
  have hgd : ∀ (i : Nat) (o : Oper), ops[i]? = some o → o.guard = none := fun i o ho => by
    have h1 := Array.all_eq_true_iff_forall_mem.1 hgd o (Array.mem_of_getElem? ho)
    exact Option.isNone_iff_eq_none.1 h1
  have hsm : ∃ e ∈ os.after, e.on = m ∧ Region.binds .any e = true := by
    obtain ⟨i, hi, h1⟩ := Array.any_eq_true.1 hsm
    rw [Bool.and_eq_true, decide_eq_true_eq] at h1
    exact ⟨_, Array.getElem_mem hi, h1.1, h1.2⟩
  refine wp_region_inv (DrawInv ops a0 w0 vals m s dm t zero final) hm ?_ ?_ ?_
  · have hf : ∀ i, ¬ (Array.replicate ops.size false).getD i false = true := fun i => by
      rw [Array.getD_eq_getD_getElem?, Array.getElem?_replicate]
      split <;> simp
    exact { size := by simp, defers := rfl, len := rfl, out := fun _ _ => rfl, bel := (Below.refl _ w0).drew
            got := fun i o d _ hl => absurd hl (hf i)
            ord := fun hl => absurd hl (hf s)
            own := fun hl => absurd hl (hf m) }
  · intro listed a w hI i o ho hun hall
    have hi : i < ops.size := (Array.getElem?_eq_some_iff.1 ho).1
    have hil : i < listed.size := by rw [hI.size]; exact hi
    have hctx : DrawCtx ops a0 w0 vals m o a w := { out := hI.out, bel := hI.bel, got := fun e he p d hb hp hd hne => hI.got _ p d hp (hall e he hb) hd hne }
    refine wpOp_of ho (by simp [Region.wanted, hgd i o ho]) ?_
    have hlt : ∀ k, o.dst = some k → k < a.tmps.size := fun k hk => by rw [hI.len]; exact dstOK_lt hok ho hk
    by_cases him : i = m
    · subst him
      obtain rfl : o = om := Option.some.inj (ho.symm.trans hom)
      refine Oper.wp_mono (fun a' w' hh => ?_) (halloc a w)
      obtain ⟨rfl, rfl⟩ := hh
      refine { size := by simp [hI.size], defers := by rw [put_defers]; exact hI.defers, len := by rw [put_size]; exact hI.len, out := fun j hj => ?_, got := fun k p d hp hl hd hne => ?_, bel := hI.bel.alloc hI.bel.size _, ord := fun _ => by rw [getD_set_bool hil, decide_eq_true rfl, Bool.true_or], own := fun _ => ?_ }
      · rw [put_tmps _ _ _ _ hlt, if_neg (hj _ o ho)]
        exact hI.out j hj
      · rw [put_tmps _ _ _ _ hlt, if_neg (fun e => hne (dstOK_eq hok hp hd ho e))]
        rw [getD_set_bool hil] at hl
        have : decide (i = k) = false := decide_eq_false (fun e => hne e.symm)
        rw [this, Bool.false_or] at hl
        exact hI.got k p d hp hl hd hne
      · refine ⟨w.heap.size, ?_, hI.bel.size, ?_⟩
        · rw [put_tmps _ _ _ _ hlt, if_pos homd]
        · have hs : (listed.setIfInBounds i true).getD s false = false := by
            rw [getD_set_bool hil, decide_eq_false hms, Bool.false_or]
            cases h : listed.getD s false with
            | false => rfl
            | true => rw [hI.ord h] at hun; cases hun
          rw [hs, if_neg (by simp)]
          exact Blk.new w t zero
    · by_cases his : i = s
      · subst his
        obtain rfl : o = os := Option.some.inj (ho.symm.trans hos)
        obtain ⟨e, he, hem, hb⟩ := hsm
        have hml : listed.getD m false = true := by rw [← hem]; exact hall e he hb
        obtain ⟨g, hg, hgl, hblk⟩ := hI.own hml
        rw [hun, if_neg (by simp)] at hblk
        refine Oper.wp_mono (fun a' w' hh => ?_) (hstore a w g hctx hg hblk)
        obtain ⟨rfl, rfl⟩ := hh
        refine { size := by simp [hI.size], defers := hI.defers, len := hI.len, out := hI.out, got := fun k p d hp hl hd hne => ?_, bel := below_row hI.bel hgl _, ord := fun _ => by rw [getD_set_bool hil, hml, Bool.or_true], own := fun _ => ⟨g, hg, hgl, ?_⟩ }
        · rw [getD_set_bool hil] at hl
          by_cases hk : i = k
          · subst hk
            rw [Option.some.inj (hp.symm.trans hos), hosd] at hd
            cases hd
          · rw [decide_eq_false hk, Bool.false_or] at hl
            exact hI.got k p d hp hl hd hne
        · rw [getD_set_bool hil, decide_eq_true rfl, Bool.true_or, if_pos rfl]
          exact hblk.setRow _
      · refine Oper.wp_mono (fun a' w' hh => ?_) (hop i o ho him his a w hctx)
        obtain ⟨rfl, hb⟩ := hh
        have hb' : Below w0.heap.size w w' := hb.mono hI.bel.size
        refine { size := by simp [hI.size], defers := by rw [put_defers]; exact hI.defers, len := by rw [put_size]; exact hI.len, out := fun j hj => ?_, got := fun k p d hp hl hd hne => ?_, bel := hI.bel.trans hb', ord := fun h => by rw [getD_set_bool hil, decide_eq_false his, Bool.false_or] at h; rw [getD_set_bool hil, hI.ord h, Bool.or_true], own := fun hl => ?_ }
        · rw [put_tmps _ _ _ _ hlt, if_neg (hj _ o ho)]
          exact hI.out j hj
        · rw [put_tmps _ _ _ _ hlt]
          rw [getD_set_bool hil] at hl
          by_cases hk : i = k
          · subst hk
            obtain rfl : p = o := Option.some.inj (hp.symm.trans ho)
            rw [if_pos hd]
          · rw [decide_eq_false hk, Bool.false_or] at hl
            rw [if_neg (fun e => hk (dstOK_eq hok ho e hp hd))]
            exact hI.got k p d hp hl hd hne
        · rw [getD_set_bool hil, decide_eq_false him, Bool.false_or] at hl
          obtain ⟨g, hg, hgl, hblk⟩ := hI.own hl
          refine ⟨g, ?_, hgl, ?_⟩
          · rw [put_tmps _ _ _ _ hlt, if_neg (fun e => him (dstOK_eq hok ho e hom homd))]
            exact hg
          · rw [getD_set_bool hil, decide_eq_false his, Bool.false_or]
            exact hblk.below hb hblk.lt
  · intro listed a w hI hr
    have hl := all_any hI.size hlex hr
    have hmi : m < ops.size := (Array.getElem?_eq_some_iff.1 hom).1
    have hsi : s < ops.size := (Array.getElem?_eq_some_iff.1 hos).1
    obtain ⟨g, hg, hgl, hblk⟩ := hI.own (hl m hmi)
    rw [hl s hsi, if_pos rfl] at hblk
    have ha : a = putAll a0 (drawL ops vals m g) := by
      have hcons : ∀ j v v', (some j, v) ∈ drawL ops vals m g → (some j, v') ∈ drawL ops vals m g → v = v' := fun j v v' h1 h2 => by
        obtain ⟨i, o, ho, hd, rfl⟩ := drawL_mem h1
        obtain ⟨i', o', ho', hd', rfl⟩ := drawL_mem h2
        rw [dstOK_eq hok ho hd ho' hd']
      have hlt : ∀ k v, (some k, v) ∈ drawL ops vals m g → k < a0.tmps.size := fun k v h1 => by
        obtain ⟨i, o, ho, hd, rfl⟩ := drawL_mem h1
        exact dstOK_lt hok ho hd
      refine act_ext (by rw [putAll_defers]; exact hI.defers) (by rw [putAll_size]; exact hI.len) fun j => ?_
      have hp := putAll_get (drawL ops vals m g) a0 j hlt (hcons j)
      by_cases hj : ∃ (i : Nat) (o : Oper), ops[i]? = some o ∧ o.dst = some j
      · obtain ⟨i, o, ho, hd⟩ := hj
        have hi : i < ops.size := (Array.getElem?_eq_some_iff.1 ho).1
        have hmem : (some j, (if i = m then Value.pointer (some ⟨g, 0, none⟩) else vals i)) ∈ drawL ops vals m g :=
          List.mem_map.2 ⟨i, List.mem_range.2 hi, by rw [ho]; exact Prod.ext hd rfl⟩
        rw [hp.1 _ hmem]
        by_cases him : i = m
        · subst him
          rw [if_pos rfl]
          obtain rfl : o = om := Option.some.inj (ho.symm.trans hom)
          rw [← hg, Option.some.inj (homd.symm.trans hd)]
        · rw [if_neg him]
          exact hI.got i o j ho (hl i hi) hd him
      · have hn : ∀ (i : Nat) (o : Oper), ops[i]? = some o → o.dst ≠ some j := fun i o ho hd => hj ⟨i, o, ho, hd⟩
        rw [hI.out j hn, hp.2 fun v h1 => ?_]
        obtain ⟨i, o, ho, hd, _⟩ := drawL_mem h1
        exact hn i o ho hd
    rw [ha, hL]
    exact fin w g hgl hblk hI.bel
def noDst (ops : Array Oper) (j : Nat) : Bool := ops.all fun o => decide (o.dst ≠ some j)
section
variable {ops : Array Oper} {a0 a : Act} {w0 w : World} {vals : Nat → Value} {m : Nat} {o : Oper} {P : Program} {Q : Exit → Act → World → Prop}
theorem DrawCtx.old (h : DrawCtx ops a0 w0 vals m o a w) (j : Nat) (hj : noDst ops j = true) : a.eval (.tmp j) = a0.tmps.getD j undef :=
  h.out j fun i o ho => by
    have h1 := Array.all_eq_true_iff_forall_mem.1 hj o (Array.mem_of_getElem? ho)
    simpa using h1
theorem DrawCtx.new (h : DrawCtx ops a0 w0 vals m o a w) (d k : Nat) (hk : (o.after.any fun e => decide (e.on = k) && Region.binds .any e) = true) (hd : ((ops[k]?).bind (·.dst)) = some d) (hm : k ≠ m) : a.eval (.tmp d) = vals k := by
  obtain ⟨i, hi, h1⟩ := Array.any_eq_true.1 hk
  rw [Bool.and_eq_true, decide_eq_true_eq] at h1
  cases hp : ops[k]? with
  | none => rw [hp] at hd; cases hd
  | some p =>
    rw [hp] at hd
    obtain ⟨h2, h3⟩ := h1
    subst h2
    exact h.got _ (Array.getElem_mem hi) p d h3 hp hd hm
theorem draw_load (ty : TypeId) (x : Operand) (ho : o.op = .load ty x) (g : Nat) (hx : a.eval x = .pointer (some ⟨g, 0, none⟩)) {t : TypeId} {cs : Array Value} {d : TypeDesc} {n : Nat} (hg : Blk w g t cs)
    (hu : P.underlying ty = some d) (hd : (match d with | .struct _ | .array _ _ => true | _ => false) = true) (hi : (P.info? ty).map (·.size) = some n) (hn : cs.size = n) :
    o.wp P a w (fun a' w' => a' = a.put o.dst (.agg cs) ∧ Below w.heap.size w w') Q :=
  wp_load_row ty x ho g hx t cs (0, 0) d hg hu hd (by rw [hi, hn]) ⟨rfl, Below.refl _ _⟩
theorem draw_call (f : FuncId) (xs : Array Operand) (ts : Array TypeId) (ho : o.op = .call { callee := .value (.func f), args := xs, argTypes := ts }) {args : Array Value} {v : Value} (hargs : xs.map a.eval = args)
    (hcf : ∀ w : World, (callFunc f args).run P w = .ok (.enter f args) w) (h : Calls P f args w fun e w' => e = .returned v ∧ Below w.heap.size w w') :
    o.wp P a w (fun a' w' => a' = a.put o.dst v ∧ Below w.heap.size w w') Q := by
  subst hargs
  have hr : (execOp a.eval o).run P w = .ok (.enter f (xs.map a.eval)) w := by
    unfold execOp
    simp only [ho]
    have := hcf w
    first | exact this | simpa [go_sem] using this
  unfold Oper.wp
  rw [hr, Oper.upon_enter]
  refine h.mono fun e w' he => ?_
  obtain ⟨rfl, hb⟩ := he
  exact ⟨rfl, hb⟩
theorem draw_move (x : Operand) (ho : o.op = .move x) {v : Value} (hx : a.eval x = v) : o.wp P a w (fun a' w' => a' = a.put o.dst v ∧ Below w.heap.size w w') Q := by
  have hr : (execOp a.eval o).run P w = .ok (.value v) w := by
    unfold execOp
    simp only [ho, hx]
    first | rfl | simp [go_sem]
  unfold Oper.wp
  rw [hr, Oper.upon_value]
  exact ⟨rfl, Below.refl _ _⟩
theorem draw_assign (x : Operand) (ho : o.op = .assign x) {v : Value} (hx : a.eval x = v) : o.wp P a w (fun a' w' => a' = a.put o.dst v ∧ Below w.heap.size w w') Q := by
  have hr : (execOp a.eval o).run P w = .ok (.value v) w := by
    unfold execOp
    simp only [ho, hx]
    first | rfl | simp [go_sem]
  unfold Oper.wp
  rw [hr, Oper.upon_value]
  exact ⟨rfl, Below.refl _ _⟩
theorem draw_extract (x : Operand) (k : Nat) (ho : o.op = .extract x k) {vs : Array Value} {v : Value} (hx : a.eval x = .tuple vs) (hv : vs[k]? = some v) : o.wp P a w (fun a' w' => a' = a.put o.dst v ∧ Below w.heap.size w w') Q := by
  have hr : (execOp a.eval o).run P w = .ok (.value v) w := by
    unfold execOp
    simp only [ho, hx]
    first | rfl | simp [go_sem, hv] | simp [hv]
  unfold Oper.wp
  rw [hr, Oper.upon_value]
  exact ⟨rfl, Below.refl _ _⟩
theorem draw_store (ty : TypeId) (x y : Operand) (ho : o.op = .store ty x y) (hd0 : o.dst = none) (g : Nat) {cells old : Array Value} {t : TypeId} {n : Nat} (hx : a.eval x = .pointer (some ⟨g, 0, none⟩)) (hy : a.eval y = .agg cells) (hg : Blk w g t old)
    (hi : (P.info? ty).map (·.size) = some n) (hold : old.size = n) (hn : cells.size = n) (h1 : cells.all (·.oneCell') = true) :
    o.wp P a w (fun a' w' => a' = a ∧ w' = w.setRow g cells) Q :=
  wp_store_row ty x y ho g cells hx hy t old hg (by rw [hi, hn]) (by rw [hold, hn]) h1 ⟨by rw [hd0]; rfl, rfl⟩
end
end Go.Proofs.Ytphfiekhpicpgaa
