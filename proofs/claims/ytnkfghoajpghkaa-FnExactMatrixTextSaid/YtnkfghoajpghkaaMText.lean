/- Contracts: the text of a matrix, by the program and by the reference, and the walk of the law. No condition. -/
import Derived.Test.YtnkfghoajpghkaaRows
import Derived.Test.YtnkfghoajpghkaaLaws
import Derived.Test.YtnkfghoajpghkaaText
import Derived.Test.YtnkfghoajpghkaaJoin
set_option linter.unusedVariables false
namespace Go.Proofs.Ytnkfghoajpghkaa
open Go.RowKit Plain
theorem run_index_rows {P : Program} {w : World} {t e e2 n m : Nat} {cs : Array Value} {k : Nat} (kd : IntKind) (hu : P.underlying t = some (.array n e)) (he : (P.info? e).map (·.size) = some m) (hag : P.underlying e = some (.array m e2))
    (hk : k < n) : (Instr.index t (.agg cs) (.int kd (k : Int))).run P w = .ok (.agg (cs.extract (k * m) (k * m + m))) w := by
  cases hq : P.info? e with
  | none => simp [hq] at he
  | some i =>
    have hs : i.size = m := by simpa [hq] using he
    simp [Instr.index, asIntOf, run_underlying hu, Go.sizeOf, typeInfo, hq, hs, part, isAgg, run_underlying hag, Sem.run_bind]
    intro h
    omega
theorem row_extract (a : Nat → UInt8) {k : Nat} (hk : k < 4) : (byteRow 16 a).extract (k * 4) (k * 4 + 4) = byteRow 4 (rowF4 a k) := by
  apply Array.ext_getElem?
  intro i
  simp only [byteRow, Array.getElem?_extract, rowOf_size, rowOf_get]
  by_cases hi : i < 4
  · rw [if_pos (by omega), if_pos (by omega), if_pos hi]
    rfl
  · rw [if_neg (by omega), if_neg hi]
def hxs (a : Nat → UInt8) : Nat → List ByteArray
  | 0 => []
  | k + 1 => hxs a k ++ [hexS (rowF4 a k) 4]
theorem hxs_len (a : Nat → UInt8) : ∀ k, (hxs a k).length = k
  | 0 => rfl
  | k + 1 => by unfold hxs; rw [List.length_append, hxs_len a k]; rfl
theorem hxs_join (a : Nat → UInt8) : Lib.join ((hxs a 4).map (·.data.toList)) [47] = txL a 4 := by
  simp [hxs, hexS, Lib.join, txL]
theorem info_str : (Try.prog.info? 9).map (fun i => (i.zero, i.size, i.bytes)) = some (some (.string ⟨#[]⟩), 1, 16) := by kernel_rfl
/-- A slice of own strings, not nil, as a list. -/
def LS (w : World) (B : Nat) (e : TypeId) (v : Value) (l : List ByteArray) : Prop := (∃ g cap, v = .slice (some ⟨g, 0, none⟩) l.length cap) ∧ w.ownsRow B e 1 v l.length (l.map Value.string)
section
variable {w w' : World} {B : Nat} {e : TypeId} {v : Value} {l : List ByteArray}
theorem LS.lt (h : LS w B e v l) : ∀ k, v.ownBlock = some k → B ≤ k ∧ k < w.heap.size := World.ownsRow.lt h.2
theorem LS.alloc (h : LS w B e v l) (o : Obj) : LS (w.alloc o) B e v l := ⟨h.1, World.ownsRow.alloc h.2 o⟩
theorem LS.rowF (h : LS w B e v l) : RowF w B e v l.length (fun i => .string (l.getD i ⟨#[]⟩)) := RowF.ofList _ h.2
theorem LS.below (h : LS w B e v l) (hb : Below w.heap.size w w') : LS w' B e v l := by
  refine ⟨h.1, h.2.1, ?_⟩
  rcases h.2.2 with hn | ⟨g, cap, cur, rfl, hB, hg, rest⟩
  · exact .inl hn
  · refine .inr ⟨g, cap, cur, rfl, hB, ?_, rest⟩
    rw [hb.block g (Array.getElem?_eq_some_iff.1 hg).1]
    exact hg
theorem LS.new {n : Nat} (hn : w.heap.size = n) (hb : B ≤ n) : LS (w.alloc (.cells #[] e)) B e (.slice (some ⟨n, 0, none⟩) 0 0) [] := by
  subst hn
  exact ⟨⟨_, _, rfl⟩, World.ownsRow_lit w #[] 0 hb (Nat.zero_le _) rfl⟩
theorem LS.cell {g cap : Nat} (h : LS w B e (.slice (some ⟨g, 0, none⟩) l.length cap) l) : ∀ (j : Nat) x, l[j]? = some x → w.cell? ⟨g, 0 + j, none⟩ = some (.string x) := fun j x hj => by
  have hl : j < l.length := (List.getElem?_eq_some_iff.1 hj).1
  rw [Nat.zero_add, World.ownsRow.cellAt h.2 j (by omega), List.getElem?_map, hj]
  rfl
end
section
variable {P : Program} {ops : Array Oper} {rest : List Oper} {o : Oper} {a : Act} {w : World} {Q : Exit → Act → World → Prop}
theorem wpList_appendS (hgd : o.guard = none) (s x : Operand) (t : TypeId) (ho : o.op = .call { callee := .builtin .append, args := #[s, x], argTypes := #[t, t] })
    (B : Nat) (e : TypeId) (i : TypeInfo) (ht : P.underlying t = some (.slice e)) (hi : P.info? e = some i) (hz : i.zero = some (.string ⟨#[]⟩)) (hsz : i.size = 1) (hby : i.bytes = 16)
    (v : Value) (l : List ByteArray) (hs : a.eval s = v) (hown : LS w B e v l) (g c : Nat) (y : ByteArray) (hx : a.eval x = .slice (some ⟨g, 0, none⟩) 1 c) (hcell : w.cell? ⟨g, 0, none⟩ = some (.string y))
    (hl : l.length < 1000) (hB : B ≤ w.heap.size)
    (h : ∀ v' w', LS w' B e v' (l ++ [y]) → w.grownBy w' v.ownBlock → wpList P ops Q rest (a.put o.dst v') w') : wpList P ops Q (o :: rest) a w := by
  refine wpList_append_own w hgd s x t ho B e i (.string ⟨#[]⟩) 1 16 ht hi hz hsz hby rfl (by decide) v l.length (l.map Value.string) hs hown.2 ⟨g, 0, none⟩ 1 c [.string y] hx rfl ?_ ?_ ?_ ?_ hB ?_
  · intro j u hj
    cases j with
    | zero =>
      simp only [List.getElem?_cons_zero, Option.some.injEq] at hj
      subst hj
      exact hcell
    | succ j => simp at hj
  · intro u hu
    simp only [List.mem_singleton] at hu
    subst hu
    rfl
  · unfold maxLen; omega
  · omega
  · intro v' w' h1 h2 h3
    refine h v' w' ⟨?_, ?_⟩ h2
    · rcases h1.2 with ⟨hv, _⟩ | ⟨g', cap, cur, rfl, _⟩
      · obtain ⟨g0, c0, hv0⟩ := hown.1
        have := (h3.1 hv).1
        rw [hv0] at this
        cases this
      · exact ⟨g', cap, by rw [List.length_append]; rfl⟩
    · rw [List.map_append, List.length_append]
      exact h1
end
set_option maxRecDepth 100000 in
theorem specMatrixText (a : Nat → UInt8) (w : World) :
    Calls Try.prog 41 #[.agg (byteRow 16 a)] w fun e w' => e = .returned (.string ⟨(txL a 4).toArray⟩) ∧ Below w.heap.size w w' := by
  have k0 := Lib.hid (Blk.new w 30 (byteRow 16 a))
  have l := Lib.hid ((Below.refl w.heap.size w).alloc (Nat.le_refl _) (.cells (byteRow 16 a) 30))
  go_enter Try.func41, Try.ntmps41
  go_wp2_with (refine wpList_loadH rfl _ _ rfl _ rfl (by assumption) Try.underlying30 rfl size30 (byteRow_size _ _) ?_)
  refine (l03Text a _).mono ?_
  rintro e wx ⟨rfl, hb⟩
  have l := carryS l hb
  clear hb
  go_wp2_with fail
  go_ret
  exact ⟨rfl, l.out⟩
set_option maxRecDepth 100000 in
set_option maxHeartbeats 400000 in
theorem implMatrixText (a : Nat → UInt8) (w : World) :
    Calls Try.prog 42 #[.agg (byteRow 16 a)] w fun e w' => e = .returned (.string ⟨(txL a 4).toArray⟩) ∧ Below w.heap.size w w' := by
  obtain ⟨i0, hi, hz, hsz, hby⟩ := info_parts info_str
  have k0 := Lib.hid ((Blk.new w 30 (byteRow 16 a)).alloc (.cells #[] 9))
  go_enter Try.func42, Try.ntmps42
  go_wp2_with (refine wpList_loadH rfl _ _ rfl _ rfl (by assumption) Try.underlying30 rfl size30 (byteRow_size _ _) ?_)
  go_loopw [8, 3] (fun i v wr => ∃ k : Nat, k ≤ 4 ∧ i = .int .i64 k ∧ LS wr (w.heap.size + 1) 9 v (hxs a k) ∧ w.heap.size + 2 ≤ wr.heap.size ∧ Below w.heap.size w wr)
    (fun i _ _ => 4 - (intOf i).toNat)
  case atStart => exact ⟨0, by omega, rfl, LS.new (by simp) (by simp), by simp, ((Below.refl _ _).alloc (by omega) _).alloc (by simp) _⟩
  case round =>
    clear k0
    obtain ⟨k, hk, rfl, hl, hsz2, hb⟩ := hrel
    by_cases hlt : k < 4
    · have hki : (k : Int) < 4 := by omega
      have ix := fun (w : World) => run_index_rows (w := w) .i64 Try.underlying30 size28 Try.underlying28 (cs := byteRow 16 a) hlt
      rw [row_extract a hlt] at ix
      have hlen := hxs_len a k
      have hst : hxs a (k + 1) = hxs a k ++ [hexS (rowF4 a k) 4] := rfl
      obtain ⟨t, ht⟩ : ∃ t, hexS (rowF4 a k) 4 = t := ⟨_, rfl⟩
      rw [ht] at hst
      have HT := Lib.hid ht
      have HL := Lib.hid hl
      have HBB := Lib.hid hb
      clear ht hl hb
      have Hst := Lib.hid hst; clear hst
      go_wp2_with (refine wpList_storeNew rfl _ _ _ rfl _ rfl rfl zero4 size28 (byteRow_size _ _) (byteRow_size _ _) (byteRow_all _ _) ?_; intro wy kr hb; have hsz2 := Nat.le_trans hsz2 hb.size; have HL := Lib.hid (HL.out.below hb); have HBB := carryS HBB hb; have kr := Lib.hid kr; clear hb)
      have C := hexOf _ (kr.out.byteS (by omega)) (by omega)
      rw [HT.out] at C
      refine C.mono ?_
      rintro e wx ⟨rfl, hb⟩
      have hsz2 := Nat.le_trans hsz2 hb.size
      have HL := Lib.hid (HL.out.below hb)
      have HBB := carryS HBB hb
      have hsize := HBB.out.size
      have hsl := HL.out.lt
      clear hb C kr
      go_wp2_with (at_builtin; refine wpList_appendS rfl _ _ _ rfl (w.heap.size + 1) 9 i0 Try.underlying92 hi hz hsz hby _ _ rfl (HL.out.alloc _) _ _ t rfl (cell_new1 rfl) (by omega) (by simp; omega) ?_; intro vy wy hl hg; have SZ : w.heap.size + 2 ≤ wy.heap.size := Nat.le_trans (by simp; omega) hg.size; have LY := Lib.hid hl; have BB := Lib.hid (below_grown (HBB.out.alloc (by omega) _) hg (by simp; omega) (fun q hq => by have := (HL.out.lt q hq).1; omega)); clear hl hg)
      go_roundw
      case rel => exact ⟨k + 1, by omega, by go_num, by rw [Hst.out]; exact LY.out, SZ, BB.out⟩
      case measure => simp [intOf]; omega
    · obtain rfl : k = 4 := by omega
      have hlt2 := hl.lt
      obtain ⟨⟨g, cap, rfl⟩, _⟩ := hl.1, hl.2
      have hcap : (hxs a 4).length ≤ cap := by
        obtain ⟨a1, c1, e1, h1, _, _⟩ := hl.rowF.form
        injection e1 with _ _ e3
        rw [e3]
        exact h1
      have C := stringsJoin g cap (hxs a 4) ⟨#[47]⟩ wr hl.cell (hlt2 g rfl).2 (by rw [hxs_len]; omega) hcap (by rw [show Lib.join ((hxs a 4).map (·.data.toList)) ((⟨#[47]⟩ : ByteArray).data.toList) = txL a 4 from hxs_join a]; have := txL_len a 4; omega)
      rw [show Lib.join ((hxs a 4).map (·.data.toList)) ((⟨#[47]⟩ : ByteArray).data.toList) = txL a 4 from hxs_join a] at C
      have h4 := hxs_len a 4
      rw [h4] at C ⊢
      have C := Lib.hid C
      clear hl hlt2 hcap h4
      have Hb := Lib.hid hb; clear hb
      go_wp2_with (go_at_call 76; refine C.out.mono ?_; rintro e wx ⟨rfl, hbx⟩; have LX := carryS Hb hbx; clear hbx)
      go_ret
      exact ⟨rfl, LX.out⟩
set_option maxRecDepth 100000 in
set_option maxHeartbeats 800000 in
theorem fnExactMatrixText.walk (b : Nat → UInt8) (w : World) :
    Calls Try.prog 10 #[.agg (byteRow 16 b)] w fun e w' => e = .returned (.bool true) ∧ Below w.heap.size w w' := by
  go_enter Try.func10, Try.ntmps10
  have k0 := Lib.hid (Blk.new w 29 (byteRow 16 b))
  have l := Lib.hid ((Below.refl w.heap.size w).alloc (Nat.le_refl _) (.cells (byteRow 16 b) 29))
  go_wp2_with (refine wpList_loadH rfl _ _ rfl _ rfl (by assumption) Try.underlying29 rfl size29 (byteRow_size _ _) ?_)
  refine (toMatrix _ _).mono ?_
  rintro e wx ⟨rfl, hb⟩
  have k0 := carryB k0 hb
  have l := carryS l hb
  clear hb
  go_wp2_with (refine wpList_loadH rfl _ _ rfl _ rfl (by assumption) Try.underlying29 rfl size29 (byteRow_size _ _) ?_)
  refine (specMatrixText _ _).mono ?_
  rintro e wx ⟨rfl, hb⟩
  have k0 := carryB k0 hb
  have l := carryS l hb
  clear hb
  go_wp2_with (refine wpList_loadH rfl _ _ rfl _ rfl (by assumption) Try.underlying29 rfl size29 (byteRow_size _ _) ?_)
  refine (toMatrix _ _).mono ?_
  rintro e wx ⟨rfl, hb⟩
  have k0 := carryB k0 hb
  have l := carryS l hb
  clear hb
  go_wp2_with (refine wpList_loadH rfl _ _ rfl _ rfl (by assumption) Try.underlying29 rfl size29 (byteRow_size _ _) ?_)
  refine (implMatrixText _ _).mono ?_
  rintro e wx ⟨rfl, hb⟩
  have k0 := carryB k0 hb
  have l := carryS l hb
  clear hb
  go_wp2_with (refine wpList_loadH rfl _ _ rfl _ rfl (by assumption) Try.underlying29 rfl size29 (byteRow_size _ _) ?_)
  go_ret
  exact ⟨rfl, l.out⟩
end Go.Proofs.Ytnkfghoajpghkaa
