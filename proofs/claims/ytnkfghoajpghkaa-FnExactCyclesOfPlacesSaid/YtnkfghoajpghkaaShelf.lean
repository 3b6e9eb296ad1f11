/- Contracts of two functions of the library, out of the kit's shelf: bits.OnesCount8 and bytes.IndexByte. No condition. -/
import Derived.Test.YtnkfghoajpghkaaRows
import Derived.Test.YtnkfghoajpghkaaPerm
import Derived.Shelf.Bytes.IndexByte
import Derived.Lib.IndexLaws
namespace Go.Proofs.Ytnkfghoajpghkaa
open Go.RowKit Plain
open Go.Shelf
def lays187_ren : Go.Shelf.Ren := ⟨fun | 187 => 95 | 255 => 98 | n => n, fun | 37 => 22 | 5 => 5 | 3 => 3 | n => n, fun | n => n⟩
theorem lays187 : Go.Proofs.Lays.n187 Try.prog lays187_ren := {
  mixed := by kernel_rfl
  f187 := Try.func95.trans (congrArg some (by kernel_rfl))
  f255 := Try.func98.trans (congrArg some (by kernel_rfl))
  t3 := Try.underlying3
  a3 := Try.isAgg3
  z3 := Try.sizeOf3
  v3 := Try.zeroValue3
  t5 := Try.underlying5
  a5 := Try.isAgg5
  z5 := Try.sizeOf5
  v5 := Try.zeroValue5
  t37 := Try.underlying22
  a37 := Try.isAgg22
  z37 := Try.sizeOf22
  v37 := Try.zeroValue22 }
/-- The first place below k at which b is c, or -1. -/
def idxU (b : Nat → UInt8) (k : Nat) (c : UInt8) : Int := Lib.indexByte ((List.range k).map b) c
theorem idxU_met {b : Nat → UInt8} {k : Nat} {c : UInt8} (h : metB b k c.toNat = true) : 0 ≤ idxU b k c := by
  have hge := Lib.indexByte_ge ((List.range k).map b) c
  obtain ⟨i, hi, e⟩ := (metB_iff _ _ _).1 h
  unfold idxU
  by_cases h1 : Lib.indexByte ((List.range k).map b) c = -1
  · have := Lib.indexByte_none h1 i
    rw [List.getElem?_map, List.getElem?_range hi] at this
    exact absurd (congrArg some (UInt8.toNat_inj.mp e)) this
  · omega
theorem idxU_none {b : Nat → UInt8} {k : Nat} {c : UInt8} (h : metB b k c.toNat = false) : idxU b k c = -1 := by
  have hge := Lib.indexByte_ge ((List.range k).map b) c
  unfold idxU
  apply Classical.byContradiction
  intro h1
  obtain ⟨o, ho⟩ : ∃ o : Nat, Lib.indexByte ((List.range k).map b) c = o := ⟨(Lib.indexByte ((List.range k).map b) c).toNat, by omega⟩
  have h2 := (Lib.indexByte_some ho).1
  rw [List.getElem?_map] at h2
  by_cases hk : o < k
  · rw [List.getElem?_range hk] at h2
    have h3 : b o = c := by simpa using h2
    exact metB_false.1 h o hk (by rw [h3])
  · rw [List.getElem?_eq_none (by simp; omega)] at h2
    cases h2
theorem indexByte (b : Nat → UInt8) (g off k cap : Nat) (c : UInt8) (w : World) (hc : ∀ i, i < k → w.cell? ⟨g, off + i, none⟩ = some (.int .u8 ((b i).toNat : Int))) :
    Calls Try.prog 95 #[.slice (some ⟨g, off, none⟩) k cap, .int .u8 (c.toNat : Int)] w fun e w' => e = .returned (.int .i64 (idxU b k c)) ∧ w' = w := by
  refine (Any.bytes_IndexByte lays187 g off k cap ((List.range k).map fun i => ((b i).toNat : Int)) (c.toNat : Int) w (by simp) (fun i hi => ?_)).mono fun e w' ⟨he, hw⟩ => ⟨?_, hw⟩
  · rw [hc i hi, List.getD_eq_getElem?_getD, List.getElem?_map, List.getElem?_range hi]
    rfl
  · rw [he]
    refine ret_int ?_
    unfold idxU
    congr 1
    · unfold Lib.bytesOf
      rw [List.map_map]
      refine List.map_congr_left fun i _ => ?_
      simp
    · simp
end Go.Proofs.Ytnkfghoajpghkaa
