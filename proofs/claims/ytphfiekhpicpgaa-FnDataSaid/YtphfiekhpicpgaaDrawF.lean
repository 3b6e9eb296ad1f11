/- Contract: the drawing of a field. No condition. -/
import Derived.Test.YtphfiekhpicpgaaRows
import Derived.Test.YtphfiekhpicpgaaSome
import Derived.Test.YtphfiekhpicpgaaSrc
import Derived.Test.YtphfiekhpicpgaaAllFields
set_option linter.unusedVariables false
namespace Go.Proofs.Ytphfiekhpicpgaa
open Go.RowKit
theorem allTo_in : ∀ n : Nat, ∀ z ∈ allTo n, 256 ≤ z ∧ z < 256 + (n : Int)
  | 0, z, h => by cases h
  | n + 1, z, h => by
    unfold allTo at h
    split at h
    · rcases List.mem_append.1 h with h | h
      · have := allTo_in n z h
        omega
      · obtain rfl := List.mem_singleton.1 h
        omega
    · have := allTo_in n z h
      omega
theorem allTo_mono : ∀ n k : Nat, (allTo n).length ≤ (allTo (n + k)).length
  | _, 0 => Nat.le_refl _
  | n, k + 1 => by
    refine Nat.le_trans (allTo_mono n k) ?_
    show _ ≤ (allTo (n + k + 1)).length
    conv => rhs; unfold allTo
    split
    · simp
    · exact Nat.le_refl _
theorem allTo_pos : 0 < (allTo 256).length := by
  refine Nat.lt_of_lt_of_le ?_ (allTo_mono 28 228)
  have h : fieldB ((27 : Nat) + 256 : Int) = true := by decide +kernel
  show 0 < (if fieldB ((27 : Nat) + 256 : Int) then allTo 27 ++ [((27 : Nat) : Int) + 256] else allTo 27).length
  rw [if_pos h]
  simp
/-- The fields' numbers lie in this row. -/
def FRow (w : World) (q m : Nat) : Prop := ∃ f : Nat → Int, Lst w q m f ∧ ∀ i, i < m → 256 ≤ f i ∧ f i < 512
theorem FRow.grown {w w' : World} {q m : Nat} {row : Option Nat} (h : FRow w q m) (hg : w.grownBy w' row) (hne : some q ≠ row) : FRow w' q m := by
  obtain ⟨f, hf, hb⟩ := h
  exact ⟨f, hf.grown hg hne, hb⟩
def fV (g q m cap : Nat) : Nat → Value → World → Prop
  | 0, v, _ | 2, v, _ | 9, v, _ => v = .pointer (some ⟨g, 0, none⟩)
  | 1, v, _ | 3, v, _ | 8, v, _ | 10, v, _ => v = .slice (some ⟨q, 0, none⟩) m cap
  | 4, v, _ | 11, v, _ => v = .int .i64 (m : Int)
  | 5, v, _ | 12, v, _ => ∃ x : Nat, x < m ∧ v = .int .i64 (x : Int)
  | 6, v, _ | 13, v, _ => ∃ x : Nat, x < m ∧ v = .pointer (some ⟨q, x, none⟩)
  | 15, v, w => ∃ q' c, v = .slice (some ⟨q', 0, none⟩) 3 c ∧ q' ≠ g ∧ FRow w q' 3
  | 7, v, _ | 14, v, _ | 16, v, _ | 17, v, _ => ∃ z : Int, 256 ≤ z ∧ z < 512 ∧ v = .int .i64 z
  | _, _, _ => True
theorem fV_mono {g q m cap : Nat} : ∀ i v w w', World.grownBy w w' (some g) → fV g q m cap i v w → fV g q m cap i v w' := fun i v w w' hg h => by
  unfold fV at h ⊢
  split <;> first | exact h | trivial | skip
  obtain ⟨q', c, rfl, hne, hr⟩ := h
  exact ⟨q', c, rfl, hne, hr.grown hg (fun e => hne (by injection e))⟩
theorem alloc_grown (w : World) (o : Obj) (row : Option Nat) : w.grownBy (w.alloc o) row :=
  have hb := (Below.refl w.heap.size w).alloc (Nat.le_refl _) o
  ⟨hb.os, hb.tape, hb.output, hb.size, fun k hk _ => hb.block k hk⟩
def Gr (g : Nat) (w w' : World) : Prop := w.grownBy w' (some g)
theorem Gr.refl {g : Nat} (w : World) : Gr g w w := World.grownBy.refl _ _
def FCl (w0 : World) (B g q m : Nat) (w : World) : Prop := Src w B g ∧ FRow w q m ∧ w0.grownBy w (some g)
set_option maxRecDepth 100000 in
set_option maxHeartbeats 400000 in
theorem l01DrawField {w : World} {B g : Nat} (hS : Src w B g) :
    Calls Try.prog 50 #[.pointer (some ⟨g, 0, none⟩)] w fun e w' => ∃ z : Int, 256 ≤ z ∧ z < 512 ∧ e = .returned (.int .i64 z) ∧ Src w' B g ∧ w.grownBy w' (some g) := by
  obtain ⟨m, hm⟩ : ∃ m, (allTo 256).length = m := ⟨_, rfl⟩
  have hm0 := allTo_pos
  have hm1 := allTo_len 256
  have hin := allTo_in 256
  have HS := Lib.hid hS
  clear hS
  go_enter Try.func50, Try.ntmps50
  go_wp2_with fail
  refine (l01Fields _).mono ?_
  rintro e wx ⟨v, rfl, hr, hb⟩
  have hrow := hr.rowF
  rw [hm] at hrow hm0 hm1
  obtain ⟨a, cap, rfl, hc, hcm, hform⟩ := hrow.form
  obtain ⟨q, rfl, hq, hql⟩ := hform.resolve_left (by omega)
  have hne : q ≠ g := fun e => by have := HS.out.lt; omega
  have hF : FRow wx q m := ⟨fun i => (allTo 256).getD i 0, ⟨hql, fun i hi => hrow.at_ hi⟩, fun i hi => by
    have : (allTo 256).getD i 0 ∈ allTo 256 := by
      rw [List.getD_eq_getElem?_getD, List.getElem?_eq_getElem (by omega)]
      exact List.getElem_mem _
    have := hin _ this
    show 256 ≤ (allTo 256).getD i 0 ∧ (allTo 256).getD i 0 < 512
    omega⟩
  have hS := HS.out.below hb
  have hG : w.grownBy wx (some g) := ⟨hb.os, hb.tape, hb.output, hb.size, fun k hk _ => hb.block k hk⟩
  clear hr hrow hin hform hm hb HS hq hql hcm
  have HF := Lib.hid hF; clear hF; have HS := Lib.hid hS; clear hS; have HG := Lib.hid hG; clear hG
  go_upto_region 2 with fail
  refine wp_region_some rfl (fV g q m cap) (FCl w B g q m) (Gr g) fV_mono (by kernel_rfl) (by kernel_rfl) (by kernel_rfl) ⟨HS.out, HF.out, ⟨HG.out.os, HG.out.tape, HG.out.output, HG.out.size, HG.out.block⟩⟩ ?_ (fun vals => [(some 5, vals 0), (some 6, vals 1), (some 7, vals 2), (some 8, vals 3), (some 9, vals 4), (some 10, vals 5), (some 11, vals 6), (some 12, vals 7), (some 13, vals 8), (some 14, vals 9), (some 15, vals 10), (some 16, vals 11), (some 17, vals 12), (some 18, vals 13), (some 19, vals 14), (some 20, vals 15), (some 21, vals 16), (some 2, vals 17)]) (fun vals => rfl) ?_
  · refine each_cons (fun a wr hc => ?_) (each_cons (fun a wr hc => ?_) (each_cons (fun a wr hc => ?_) (each_cons (fun a wr hc => ?_) (each_cons (fun a wr hc => ?_) (each_cons (fun a wr hc => ?_) (each_cons (fun a wr hc => ?_) (each_cons (fun a wr hc => ?_) (each_cons (fun a wr hc => ?_) (each_cons (fun a wr hc => ?_) (each_cons (fun a wr hc => ?_) (each_cons (fun a wr hc => ?_) (each_cons (fun a wr hc => ?_) (each_cons (fun a wr hc => ?_) (each_cons (fun a wr hc => ?_) (each_cons (fun a wr hc => ?_) (each_cons (fun a wr hc => ?_) (each_cons (fun a wr hc => ?_) each_nil)))))))))))))))))
    · have e : a.tmps[0]?.getD undef = .pointer (some ⟨g, 0, none⟩) := (eval_tmp a 0).trans (hc.old 0 (by kernel_rfl))
      refine some_val (.pointer (some ⟨g, 0, none⟩)) ?_ rfl hc.cls (Gr.refl _)
      go_simp
    · have e : a.tmps[3]?.getD undef = .slice (some ⟨q, 0, none⟩) m cap := (eval_tmp a 3).trans (hc.old 3 (by kernel_rfl))
      refine some_val (.slice (some ⟨q, 0, none⟩) m cap) ?_ rfl hc.cls (Gr.refl _)
      go_simp
    · have e : a.tmps[0]?.getD undef = .pointer (some ⟨g, 0, none⟩) := (eval_tmp a 0).trans (hc.old 0 (by kernel_rfl))
      refine some_val (.pointer (some ⟨g, 0, none⟩)) ?_ rfl hc.cls (Gr.refl _)
      go_simp
    · have e : a.tmps[3]?.getD undef = .slice (some ⟨q, 0, none⟩) m cap := (eval_tmp a 3).trans (hc.old 3 (by kernel_rfl))
      refine some_val (.slice (some ⟨q, 0, none⟩) m cap) ?_ rfl hc.cls (Gr.refl _)
      go_simp
    · have e : a.tmps[8]?.getD undef = .slice (some ⟨q, 0, none⟩) m cap := (eval_tmp a 8).trans (hc.new 8 3 (by kernel_rfl) (by kernel_rfl))
      refine some_val (.int .i64 (m : Int)) ?_ rfl hc.cls (Gr.refl _)
      go_simp
    · have e1 : a.eval (.tmp 7) = .pointer (some ⟨g, 0, none⟩) := hc.new 7 2 (by kernel_rfl) (by kernel_rfl)
      have e2 : a.eval (.tmp 9) = .int .i64 (m : Int) := hc.new 9 4 (by kernel_rfl) (by kernel_rfl)
      refine some_call 51 #[.tmp 7, .tmp 9] _ rfl (by simp only [List.map_toArray, List.map_cons, List.map_nil, e1, e2]) (fun w => by go_simp) ((l01Next hc.cls.1 m hm0 (by omega)).mono ?_)
      rintro e w' ⟨x, hx, rfl, hs, hg⟩
      exact ⟨_, rfl, ⟨x, hx, rfl⟩, ⟨hs, hc.cls.2.1.grown hg (fun e => hne (by injection e)), hc.cls.2.2.trans hg⟩, hg⟩
    · have e1 : a.tmps[6]?.getD undef = .slice (some ⟨q, 0, none⟩) m cap := (eval_tmp a 6).trans (hc.new 6 1 (by kernel_rfl) (by kernel_rfl))
      obtain ⟨x, hx, e2⟩ := hc.new 10 5 (by kernel_rfl) (by kernel_rfl)
      have e2 := (eval_tmp a 10).trans e2
      have hxi : (x : Int) < (m : Int) := by omega
      refine some_val (.pointer (some ⟨q, x, none⟩)) ?_ ⟨x, hx, rfl⟩ hc.cls (Gr.refl _)
      go_simp
    · obtain ⟨x, hx, e⟩ := hc.new 11 6 (by kernel_rfl) (by kernel_rfl)
      have e := (eval_tmp a 11).trans e
      obtain ⟨f, hL, hb⟩ := hc.cls.2.1
      have c := hL.2 x hx
      refine some_val (.int .i64 (f x)) ?_ ⟨f x, (hb x hx).1, (hb x hx).2, rfl⟩ hc.cls (Gr.refl _)
      clear hL hb
      go_simp
    · have e : a.tmps[3]?.getD undef = .slice (some ⟨q, 0, none⟩) m cap := (eval_tmp a 3).trans (hc.old 3 (by kernel_rfl))
      refine some_val (.slice (some ⟨q, 0, none⟩) m cap) ?_ rfl hc.cls (Gr.refl _)
      go_simp
    · have e : a.tmps[0]?.getD undef = .pointer (some ⟨g, 0, none⟩) := (eval_tmp a 0).trans (hc.old 0 (by kernel_rfl))
      refine some_val (.pointer (some ⟨g, 0, none⟩)) ?_ rfl hc.cls (Gr.refl _)
      go_simp
    · have e : a.tmps[3]?.getD undef = .slice (some ⟨q, 0, none⟩) m cap := (eval_tmp a 3).trans (hc.old 3 (by kernel_rfl))
      refine some_val (.slice (some ⟨q, 0, none⟩) m cap) ?_ rfl hc.cls (Gr.refl _)
      go_simp
    · have e : a.tmps[15]?.getD undef = .slice (some ⟨q, 0, none⟩) m cap := (eval_tmp a 15).trans (hc.new 15 10 (by kernel_rfl) (by kernel_rfl))
      refine some_val (.int .i64 (m : Int)) ?_ rfl hc.cls (Gr.refl _)
      go_simp
    · have e1 : a.eval (.tmp 14) = .pointer (some ⟨g, 0, none⟩) := hc.new 14 9 (by kernel_rfl) (by kernel_rfl)
      have e2 : a.eval (.tmp 16) = .int .i64 (m : Int) := hc.new 16 11 (by kernel_rfl) (by kernel_rfl)
      refine some_call 51 #[.tmp 14, .tmp 16] _ rfl (by simp only [List.map_toArray, List.map_cons, List.map_nil, e1, e2]) (fun w => by go_simp) ((l01Next hc.cls.1 m hm0 (by omega)).mono ?_)
      rintro e w' ⟨x, hx, rfl, hs, hg⟩
      exact ⟨_, rfl, ⟨x, hx, rfl⟩, ⟨hs, hc.cls.2.1.grown hg (fun e => hne (by injection e)), hc.cls.2.2.trans hg⟩, hg⟩
    · have e1 : a.tmps[13]?.getD undef = .slice (some ⟨q, 0, none⟩) m cap := (eval_tmp a 13).trans (hc.new 13 8 (by kernel_rfl) (by kernel_rfl))
      obtain ⟨x, hx, e2⟩ := hc.new 17 12 (by kernel_rfl) (by kernel_rfl)
      have e2 := (eval_tmp a 17).trans e2
      have hxi : (x : Int) < (m : Int) := by omega
      refine some_val (.pointer (some ⟨q, x, none⟩)) ?_ ⟨x, hx, rfl⟩ hc.cls (Gr.refl _)
      go_simp
    · obtain ⟨x, hx, e⟩ := hc.new 18 13 (by kernel_rfl) (by kernel_rfl)
      have e := (eval_tmp a 18).trans e
      obtain ⟨f, hL, hb⟩ := hc.cls.2.1
      have c := hL.2 x hx
      refine some_val (.int .i64 (f x)) ?_ ⟨f x, (hb x hx).1, (hb x hx).2, rfl⟩ hc.cls (Gr.refl _)
      clear hL hb
      go_simp
    · obtain ⟨z1, b1, c1, e1⟩ := hc.new 12 7 (by kernel_rfl) (by kernel_rfl)
      obtain ⟨z2, b2, c2, e2⟩ := hc.new 19 14 (by kernel_rfl) (by kernel_rfl)
      have e1 := (eval_tmp a 12).trans e1
      have e2 := (eval_tmp a 19).trans e2
      have hk : Blk (wr.alloc (.cells #[.int .i64 285, .int .i64 z1, .int .i64 z2] 2)) wr.heap.size 2 #[.int .i64 285, .int .i64 z1, .int .i64 z2] := Blk.new wr _ _
      have hg : wr.grownBy (wr.alloc (.cells #[.int .i64 285, .int .i64 z1, .int .i64 z2] 2)) (some g) := alloc_grown wr _ _
      have hgl := hc.cls.1.lt
      refine some_to (.slice (some ⟨wr.heap.size, 0, none⟩) 3 3) (w1 := wr.alloc (.cells #[.int .i64 285, .int .i64 z1, .int .i64 z2] 2)) ?_ ⟨_, _, rfl, by omega, fun i => match i with | 0 => 285 | 1 => z1 | _ => z2, ⟨hk.lt, fun i hi => ?_⟩, fun i hi => ?_⟩ ⟨hc.cls.1.below ((Below.refl _ _).alloc (Nat.le_refl _) _), hc.cls.2.1.grown hg (fun e => hne (by injection e)), hc.cls.2.2.trans hg⟩ hg
      · clear hk hg
        go_simp
      · rw [hk.cell i]
        match i, hi with
        | 0, _ | 1, _ | 2, _ => rfl
      · match i, hi with
        | 0, _ => exact ⟨(by decide : (256 : Int) ≤ 285), (by decide : (285 : Int) < 512)⟩
        | 1, _ => exact ⟨b1, c1⟩
        | 2, _ => exact ⟨b2, c2⟩
    · have e1 : a.eval (.tmp 5) = .pointer (some ⟨g, 0, none⟩) := hc.new 5 0 (by kernel_rfl) (by kernel_rfl)
      obtain ⟨q', c, e2, hne', f', hL', hb'⟩ := hc.new 20 15 (by kernel_rfl) (by kernel_rfl)
      refine some_call 52 #[.tmp 5, .tmp 20] _ rfl (by simp only [List.map_toArray, List.map_cons, List.map_nil, e1, e2]) (fun w => by go_simp) ((l01Pick (cap := c) hc.cls.1 hL' hne' (by omega) (by omega)).mono ?_)
      rintro e w' ⟨x, hx, rfl, hs, hg⟩
      exact ⟨_, rfl, ⟨_, (hb' x hx).1, (hb' x hx).2, rfl⟩, ⟨hs, hc.cls.2.1.grown hg (fun e => hne (by injection e)), hc.cls.2.2.trans hg⟩, hg⟩
    · obtain ⟨z, b1, c1, e⟩ := hc.new 21 16 (by kernel_rfl) (by kernel_rfl)
      have e := (eval_tmp a 21).trans e
      refine some_val (.int .i64 z) ?_ ⟨z, b1, c1, rfl⟩ hc.cls (Gr.refl _)
      go_simp
  · intro vals wy hv hc
    obtain ⟨z, h1, h2, h3⟩ := hv 17 2 (by kernel_rfl)
    have HC := Lib.hid hc
    simp only [putAll, Act.put, List.setIfInBounds_toArray, List.set]
    rw [h3]
    clear hv
    go_wp2
    go_ret
    exact ⟨z, h1, h2, rfl, HC.out.1, HC.out.2.2⟩
end Go.Proofs.Ytphfiekhpicpgaa
