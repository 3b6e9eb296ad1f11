/- The arguments of a law, opened: rows of bytes, numbers, strings, slices. No condition. -/
import Derived.Test.YtphfiekhpicpgaaKit
import Derived.ProofKit
import Derived.OpenShut
import Derived.ShutString
import Derived.ChangeOld
namespace Go.Proofs.Ytphfiekhpicpgaa
open Go.ChangeShapes Go.WideShapes Go.ChangeAt Go.RowKit
open Go.ChangeMaps (open_string shut_string)
section
variable {H : Type} {enc : TypeId × Value → H} {P : Program} {W : World} {r : Reach} {base : Nat} {sp : Nat → Bool} {hd : Bool} {v : Value} {d : DataW H} {p : List MemPlace}
theorem u8_of_wf {n : Int} (h : (Lit.int .u8 n).wf = true) : ∃ u : UInt8, n = (u.toNat : Int) := by
  have hmin : IntKind.u8.min = 0 := rfl
  have hmax : IntKind.u8.max = 255 := rfl
  simp only [Lit.wf, Bool.and_eq_true, decide_eq_true_eq] at h
  refine ⟨UInt8.ofNat n.toNat, ?_⟩
  rw [toNat_ofNat_lt (by omega)]
  omega
theorem byte_of_trod {e : TypeId} {l : List Value} {m : Nat} {b0 : Nat} {x : DataW H × List MemPlace} (he : P.underlying e = some (.int .u8)) (h : DataW.trod enc P W b0 sp hd m e l = some x) :
    ∃ u : UInt8, l = [.int .u8 (u.toNat : Int)] := by
  obtain ⟨n, rfl, _, hw⟩ := DataW.trod_int he h
  obtain ⟨u, rfl⟩ := u8_of_wf hw
  exact ⟨u, rfl⟩
theorem bytes_of_trod {t e n m : Nat} {b0 : Nat} {l : List Value} {x : DataW H × List MemPlace} (ht : P.underlying t = some (.array n e)) (he : P.underlying e = some (.int .u8)) (hc : P.cellsOf t = n) (hce : P.cellsOf e = 1)
    (h : DataW.trod enc P W b0 sp hd m t l = some x) : l.length = n ∧ ∀ i, i < n → ∃ u : UInt8, l[i]? = some (.int .u8 (u.toNat : Int)) := by
  obtain ⟨xs, k, _, _, hl, hx, hi⟩ := DataW.trod_array ht h
  rw [hc] at hl
  refine ⟨hl, fun i hin => ?_⟩
  have h1 := hi i hin
  rw [hce, Nat.mul_one, List.getElem?_eq_getElem (by omega)] at h1
  obtain ⟨u, hu⟩ := byte_of_trod he h1
  refine ⟨u, ?_⟩
  have h2 : ((l.drop i).take 1)[0]? = some (.int .u8 (u.toNat : Int)) := by rw [hu]; rfl
  rw [List.getElem?_take, if_pos (by omega), List.getElem?_drop] at h2
  simpa using h2
theorem bytes_row {n : Nat} {cs : Array Value} (hl : cs.toList.length = n) (h : ∀ i, i < n → ∃ u : UInt8, cs.toList[i]? = some (.int .u8 (u.toNat : Int))) : ∃ b : Nat → UInt8, cs = byteRow n b := by
  refine ⟨fun i => match cs[i]? with | some (.int .u8 z) => UInt8.ofNat z.toNat | _ => 0, ?_⟩
  apply Array.ext_getElem?
  intro i
  unfold byteRow
  rw [rowOf_get]
  by_cases hi : i < n
  · obtain ⟨u, hu⟩ := h i hi
    have hu' : cs[i]? = some (.int .u8 (u.toNat : Int)) := by simpa using hu
    rw [if_pos hi]
    simp [hu']
  · rw [if_neg hi]
    have : cs.size = n := by simpa using hl
    simp; omega
theorem agg_of_okWide {t e n : Nat} (ht : P.underlying t = some (.array n e)) (hok : Value.okWide P W r base t v) : ∃ cs, v = .agg cs := by
  simp only [Value.okWide, ht] at hok
  obtain ⟨cs, h, _⟩ := hok
  exact ⟨cs, h⟩
theorem open_bytes {t e n : Nat} (ht : P.underlying t = some (.array n e)) (he : P.underlying e = some (.int .u8)) (hc : P.cellsOf t = n) (hce : P.cellsOf e = 1)
    (hok : Value.okWide P W r base t v) (h : DataW.Trod enc P W 0 sp hd t v d p) : ∃ b : Nat → UInt8, v = .agg (byteRow n b) := by
  obtain ⟨cs, rfl⟩ := agg_of_okWide ht hok
  obtain ⟨m, hm⟩ := h
  obtain ⟨hl, hb⟩ := bytes_of_trod ht he hc hce hm
  obtain ⟨b, hb⟩ := bytes_row (cs := cs) hl hb
  exact ⟨b, by rw [hb]⟩
theorem bytes2_of_trod {t e e2 n k m : Nat} {b0 : Nat} {l : List Value} {x : DataW H × List MemPlace} (ht : P.underlying t = some (.array n e)) (he : P.underlying e = some (.array k e2)) (he2 : P.underlying e2 = some (.int .u8))
    (hc : P.cellsOf t = n * k) (hce : P.cellsOf e = k) (hce2 : P.cellsOf e2 = 1) (hk : 0 < k)
    (h : DataW.trod enc P W b0 sp hd m t l = some x) : l.length = n * k ∧ ∀ i, i < n * k → ∃ u : UInt8, l[i]? = some (.int .u8 (u.toNat : Int)) := by
  obtain ⟨xs, q, _, _, hl, hx, hi⟩ := DataW.trod_array ht h
  rw [hc] at hl
  refine ⟨hl, fun i hin => ?_⟩
  have hdiv : i / k < n := by rw [Nat.div_lt_iff_lt_mul hk]; exact hin
  have h1 := hi (i / k) hdiv
  rw [hce, List.getElem?_eq_getElem (by omega)] at h1
  obtain ⟨_, hb⟩ := bytes_of_trod he he2 hce hce2 h1
  have hmod : i % k < k := Nat.mod_lt _ hk
  obtain ⟨u, hu⟩ := hb (i % k) hmod
  refine ⟨u, ?_⟩
  rw [List.getElem?_take, if_pos hmod, List.getElem?_drop] at hu
  rw [← hu]
  congr 1
  have := Nat.div_add_mod i k
  rw [Nat.mul_comm] at this
  exact this.symm
theorem open_bytes2 {t e e2 n k : Nat} (ht : P.underlying t = some (.array n e)) (he : P.underlying e = some (.array k e2)) (he2 : P.underlying e2 = some (.int .u8))
    (hc : P.cellsOf t = n * k) (hce : P.cellsOf e = k) (hce2 : P.cellsOf e2 = 1) (hok : Value.okWide P W r base t v) (h : DataW.Trod enc P W 0 sp hd t v d p) (hk : 0 < k := by omega) : ∃ b : Nat → UInt8, v = .agg (byteRow (n * k) b) := by
  obtain ⟨cs, rfl⟩ := agg_of_okWide ht hok
  obtain ⟨m, hm⟩ := h
  obtain ⟨hl, hb⟩ := bytes2_of_trod ht he he2 hc hce hce2 hk hm
  obtain ⟨b, hb⟩ := bytes_row (cs := cs) hl hb
  exact ⟨b, by rw [hb]⟩
theorem open_u8 {t : TypeId} (ht : P.underlying t = some (.int .u8)) (hok : Value.okWide P W r base t v) (h : DataW.Trod enc P W 0 sp hd t v d p) : ∃ u : UInt8, v = .int .u8 (u.toNat : Int) := by
  obtain ⟨x, rfl, _, _, hw⟩ := open_int ht hok h
  obtain ⟨u, rfl⟩ := u8_of_wf hw
  exact ⟨u, rfl⟩
theorem open_i64 {t : TypeId} (ht : P.underlying t = some (.int .i64)) (hok : Value.okWide P W r base t v) (h : DataW.Trod enc P W 0 sp hd t v d p) :
    ∃ x : Int, v = .int .i64 x ∧ -9223372036854775808 ≤ x ∧ x ≤ 9223372036854775807 := by
  obtain ⟨x, rfl, _, _, hw⟩ := open_int ht hok h
  have hmin : IntKind.i64.min = -9223372036854775808 := rfl
  have hmax : IntKind.i64.max = 9223372036854775807 := rfl
  simp only [Lit.wf, Bool.and_eq_true, decide_eq_true_eq] at hw
  exact ⟨x, rfl, by omega, by omega⟩
theorem open_str {t : TypeId} (ht : P.underlying t = some .string) (hok : Value.okWide P W r base t v) (h : DataW.Trod enc P W 0 sp hd t v d p) : ∃ s : ByteArray, v = .string s ∧ s.size ≤ maxLen := by
  obtain ⟨s, rfl, _, _, hs⟩ := open_string ht hok h
  exact ⟨s, rfl, hs⟩
/-- A slice of bytes that came in: nil, or len cells that b gives, at an address that is there. -/
def ByteS (w : World) (a : Option Addr) (len cap : Nat) (b : Nat → UInt8) : Prop :=
  len ≤ cap ∧ cap ≤ maxLen ∧ (len = 0 ∨ ∃ g off, a = some ⟨g, off, none⟩ ∧ g < w.heap.size ∧ ∀ i, i < len → w.cell? ⟨g, off + i, none⟩ = some (.int .u8 ((b i).toNat : Int)))
def LongS (w : World) (a : Option Addr) (len cap : Nat) (b : Nat → Int) : Prop :=
  len ≤ cap ∧ cap ≤ maxLen ∧ (∀ i, -9223372036854775808 ≤ b i ∧ b i ≤ 9223372036854775807) ∧ (len = 0 ∨ ∃ g off, a = some ⟨g, off, none⟩ ∧ g < w.heap.size ∧ ∀ i, i < len → w.cell? ⟨g, off + i, none⟩ = some (.int .i64 (b i)))
theorem open_byteS {t e : TypeId} (ht : P.underlying t = some (.slice e)) (he : P.underlying e = some (.int .u8)) (hc : P.cellsOf e = 1) (hok : Value.okWide P W r base t v) (h : DataW.Trod enc P W 0 sp hd t v d p) :
    ∃ a len cap b, v = .slice a len cap ∧ ByteS W a len cap b := by
  obtain ⟨a0, len, cap, rfl⟩ := okWide_slice ht hok
  obtain ⟨fuel, hf⟩ := h
  rcases open_ints ht he hc hf with ⟨hcs, _⟩ | ⟨x, l, c, zs, hcs, _, hl, hm, hz, _, hcell, hwz⟩
  · simp [Value.cells] at hcs
    obtain ⟨rfl, rfl, rfl⟩ := hcs
    exact ⟨none, 0, 0, fun _ => 0, rfl, Nat.le_refl _, by unfold maxLen; omega, .inl rfl⟩
  · simp [Value.cells] at hcs
    obtain ⟨rfl, rfl, rfl⟩ := hcs
    have hzl : len ≤ zs.length := by rw [hz]; split <;> omega
    refine ⟨_, len, cap, fun i => UInt8.ofNat (zs.getD i 0).toNat, rfl, hl, hm, ?_⟩
    rcases Nat.eq_zero_or_pos len with h0 | h0
    · exact .inl h0
    · obtain ⟨b, off, rfl, hcc⟩ := ints_at hcell (by omega)
      refine .inr ⟨b, off, rfl, block_lt_of_cell (hcc 0 (by omega)), fun i hi => ?_⟩
      rw [hcc i (by omega)]
      have hmem : zs.getD i 0 ∈ zs := by
        rw [List.getD_eq_getElem?_getD, List.getElem?_eq_getElem (by omega)]
        exact List.getElem_mem _
      obtain ⟨u, hu⟩ := u8_of_wf (hwz _ hmem)
      show _ = some (Value.int .u8 (((UInt8.ofNat (zs.getD i 0).toNat).toNat : Nat) : Int))
      rw [hu, Int.toNat_natCast, toNat_ofNat_lt u.toNat_lt]
theorem open_longS {t e : TypeId} (ht : P.underlying t = some (.slice e)) (he : P.underlying e = some (.int .i64)) (hc : P.cellsOf e = 1) (hok : Value.okWide P W r base t v) (h : DataW.Trod enc P W 0 sp hd t v d p) :
    ∃ a len cap b, v = .slice a len cap ∧ LongS W a len cap b := by
  obtain ⟨a0, len, cap, rfl⟩ := okWide_slice ht hok
  obtain ⟨fuel, hf⟩ := h
  rcases open_ints ht he hc hf with ⟨hcs, _⟩ | ⟨x, l, c, zs, hcs, _, hl, hm, hz, _, hcell, hwz⟩
  · simp [Value.cells] at hcs
    obtain ⟨rfl, rfl, rfl⟩ := hcs
    exact ⟨none, 0, 0, fun _ => 0, rfl, Nat.le_refl _, by unfold maxLen; omega, fun _ => by show _ ≤ (0 : Int) ∧ (0 : Int) ≤ _; omega, .inl rfl⟩
  · simp [Value.cells] at hcs
    obtain ⟨rfl, rfl, rfl⟩ := hcs
    have hzl : len ≤ zs.length := by rw [hz]; split <;> omega
    refine ⟨_, len, cap, fun i => zs.getD i 0, rfl, hl, hm, fun i => ?_, ?_⟩
    · show _ ≤ zs.getD i 0 ∧ zs.getD i 0 ≤ _
      by_cases hi : i < zs.length
      · have hmem : zs.getD i 0 ∈ zs := by
          rw [List.getD_eq_getElem?_getD, List.getElem?_eq_getElem (by omega)]
          exact List.getElem_mem _
        have hw := hwz _ hmem
        have hmin : IntKind.i64.min = -9223372036854775808 := rfl
        have hmax : IntKind.i64.max = 9223372036854775807 := rfl
        simp only [Lit.wf, Bool.and_eq_true, decide_eq_true_eq] at hw
        omega
      · have : zs.getD i 0 = 0 := by rw [List.getD_eq_getElem?_getD, List.getElem?_eq_none (by omega)]; rfl
        omega
    · rcases Nat.eq_zero_or_pos len with h0 | h0
      · exact .inl h0
      · obtain ⟨b, off, rfl, hcc⟩ := ints_at hcell (by omega)
        exact .inr ⟨b, off, rfl, block_lt_of_cell (hcc 0 (by omega)), fun i hi => hcc i (by omega)⟩
end
end Go.Proofs.Ytphfiekhpicpgaa
