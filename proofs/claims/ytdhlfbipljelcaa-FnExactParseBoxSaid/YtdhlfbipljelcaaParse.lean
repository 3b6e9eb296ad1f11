/- Contracts: boxes out of hex texts, by the program and by the reference, and the walk of the law. No condition. -/
import Derived.Test.YtdhlfbipljelcaaRows
import Derived.Test.YtdhlfbipljelcaaLaws
import Derived.Test.YtdhlfbipljelcaaPerm
import Derived.Test.YtdhlfbipljelcaaBox
import Derived.Test.YtdhlfbipljelcaaUnhex
import Derived.Laws.Cover3
set_option linter.unusedVariables false
namespace Go.Proofs.Ytdhlfbipljelcaa
open Go.RowKit Plain
def parV (s : ByteArray) : Nat → UInt8 := match unhex s with
  | some l => if l.length = 256 then fun i => l.getD i 0 else fun _ => 0
  | none => fun _ => 0
def parC (s : ByteArray) : Int := match unhex s with
  | some l => if l.length = 256 then 0 else 6
  | none => 6
theorem par_none {s : ByteArray} (h : unhex s = none) : parV s = (fun _ => 0) ∧ parC s = 6 := by
  unfold parV parC
  rw [h]
  exact ⟨rfl, rfl⟩
theorem par_not {s : ByteArray} {l : List UInt8} (h : unhex s = some l) (hl : ¬ l.length = 256) : parV s = (fun _ => 0) ∧ parC s = 6 := by
  unfold parV parC
  rw [h]
  simp [hl]
theorem par_some {s : ByteArray} {l : List UInt8} (h : unhex s = some l) (hl : l.length = 256) : parV s = (fun i => l.getD i 0) ∧ parC s = 0 := by
  unfold parV parC
  rw [h]
  simp [hl]
theorem ret_pairZ {a b : Array Value} {n m : Int} (h : a = b) (h2 : n = m) : Ending.returned (.tuple #[.agg a, .int .i64 n]) = .returned (.tuple #[.agg b, .int .i64 m]) := by rw [h, h2]
theorem wpList_loadF {P : Program} {ops : Array Oper} {rest : List Oper} {o : Oper} {a : Act} {w : World} {Q : Exit → Act → World → Prop} (hgd : o.guard = none) (ty : TypeId) (x : Operand) (ho : o.op = .load ty x)
    (g : Nat) (hx : a.eval x = .pointer (some ⟨g, 0, none⟩)) (n : Nat) (b : Nat → UInt8) {d : TypeDesc} (hc : ∀ i, i < n → w.cell? ⟨g, i, none⟩ = some (.int .u8 ((b i).toNat : Int)))
    (hu : P.underlying ty = some d) (hd : d.isRow = true) (hi : (P.info? ty).map (·.size) = some n)
    (h : wpList P ops Q rest (a.put o.dst (.agg (byteRow n b))) w) : wpList P ops Q (o :: rest) a w := by
  refine wpList_load_mid hgd ty x ho g 0 hx (byteRow n b).toList d (fun j v hv => ?_) hu hd (by rw [hi]; simp [byteRow_size]) h
  have hv' : (byteRow n b)[j]? = some v := by simpa using hv
  have hj : j < n := by
    have := (Array.getElem?_eq_some_iff.1 hv').1
    rwa [byteRow_size] at this
  rw [byteRow_at _ hj] at hv'
  rw [Nat.zero_add, hc j hj]
  exact hv'
theorem LB.cellD {w : World} {B : Nat} {e : TypeId} {g cap : Nat} {l : List UInt8} (h : LB w B e (.slice (some ⟨g, 0, none⟩) l.length cap) l) (n : Nat) (hn : l.length = n) : ∀ i, i < n → w.cell? ⟨g, i, none⟩ = some (.int .u8 ((l.getD i 0).toNat : Int)) := fun i hi => by
  have := h.cell i (by omega)
  rw [Nat.zero_add] at this
  rw [this, List.getD_eq_getElem?_getD, List.getElem?_eq_getElem (by omega)]
  rfl
set_option maxRecDepth 100000 in
set_option maxHeartbeats 1600000 in
theorem specParseBox (s : ByteArray) (w : World) (hn : s.size ≤ 1048576) :
    Calls Try.prog 42 #[.string s] w fun e w' => e = .returned (.tuple #[.agg (byteRow 256 (parV s)), .int .i64 (parC s)]) ∧ Below w.heap.size w w' := by
  have k1 := Lib.hid ((Blk.new w 24 Try.zeroCells24).eq_ zeroBox)
  have l := Lib.hid ((Below.refl w.heap.size w).alloc (Nat.le_refl _) (.cells Try.zeroCells24 24))
  go_enter Try.func42, Try.ntmps42
  go_wp2_with fail
  refine (l01Bytes s _ hn).mono ?_
  rintro e wx (⟨v, t, hu, rfl, hl, hb⟩ | ⟨hu, rfl, hb⟩)
  · have k1 := carryB k1 hb
    have l := carryS l hb
    have hgl := hl.lt
    obtain ⟨⟨g, cap, rfl⟩, _⟩ := hl.1, hl.2
    have hcap := LB.capLe hl
    by_cases h256 : t.length = 256
    · obtain ⟨hv, hc⟩ := par_some hu h256
      have hcell := LB.cellD hl 256 h256
      rw [h256] at hcap ⊢
      clear hb hl hgl hu h256
      have ar := fun (w : World) => run_arrayAt (P := Try.prog) (w := w) 24 _ 256 (some ⟨g, 0, none⟩) 256 cap Try.underlying24 (Nat.le_refl _)
      have Hv := Lib.hid hv; clear hv; have Hc := Lib.hid hc; clear hc; have Hcell := Lib.hid hcell; clear hcell
      go_wp2_with (first | (refine wpList_loadF rfl _ _ rfl _ rfl 256 _ Hcell.out Try.underlying24 rfl size24 ?_) | (refine wpList_storeR rfl _ _ _ rfl _ _ rfl rfl k1.out size24 (byteRow_size _ _) (byteRow_size _ _) (byteRow_all _ _) ?_))
      refine bodyPost_ret (results_cellB_tmp rfl _ _ _ rfl (k1.out.setRow _) Try.underlying24 rfl size24 (byteRow_size _ _)) rfl ⟨ret_pairZ (by rw [Hv.out]; exact byteRow_congr fun i _ => by simp [List.getD_eq_getElem?_getD]) Hc.out.symm, below_row l.out (by omega) _⟩
    · obtain ⟨hv, hc⟩ := par_not hu h256
      have e1 : ((t.length : Int) != 256) = true := by rw [bne_iff_ne]; omega
      clear hb hl hgl hu h256
      have Hv := Lib.hid hv; clear hv; have Hc := Lib.hid hc; clear hc
      go_wp2_with (first | (refine wpList_buildZ rfl _ rfl builtBox ?_) | (refine wpList_storeR rfl _ _ _ rfl _ _ rfl rfl k1.out size24 (byteRow_size _ _) (byteRow_size _ _) (byteRow_all _ _) ?_))
      refine bodyPost_ret (results_cellB_tmp rfl _ _ _ rfl (k1.out.setRow _) Try.underlying24 rfl size24 (byteRow_size _ _)) rfl ⟨ret_pairZ (by rw [Hv.out]) Hc.out.symm, below_row l.out (by omega) _⟩
  · have k1 := carryB k1 hb
    have l := carryS l hb
    obtain ⟨hv, hc⟩ := par_none hu
    clear hb hu
    have Hv := Lib.hid hv; clear hv; have Hc := Lib.hid hc; clear hc
    go_wp2_with (first | (refine wpList_buildZ rfl _ rfl builtBox ?_) | (refine wpList_storeR rfl _ _ _ rfl _ _ rfl rfl k1.out size24 (byteRow_size _ _) (byteRow_size _ _) (byteRow_all _ _) ?_))
    refine bodyPost_ret (results_cellB_tmp rfl _ _ _ rfl (k1.out.setRow _) Try.underlying24 rfl size24 (byteRow_size _ _)) rfl ⟨ret_pairZ (by rw [Hv.out]) Hc.out.symm, below_row l.out (by omega) _⟩
set_option maxRecDepth 100000 in
set_option maxHeartbeats 1600000 in
theorem implParseBox (s : ByteArray) (w : World) (hn : s.size ≤ 1048576) :
    Calls Try.prog 43 #[.string s] w fun e w' => e = .returned (.tuple #[.agg (byteRow 256 (parV s)), .int .i64 (parC s)]) ∧ Below w.heap.size w w' := by
  have k1 := Lib.hid ((Blk.new w 24 Try.zeroCells24).eq_ zeroBox)
  have l := Lib.hid ((Below.refl w.heap.size w).alloc (Nat.le_refl _) (.cells Try.zeroCells24 24))
  go_enter Try.func43, Try.ntmps43
  go_wp2_with fail
  refine (fromHex s _ hn).mono ?_
  rintro e wx (⟨v, t, hu, rfl, hl, hb⟩ | ⟨hu, rfl, hb⟩)
  · have k1 := carryB k1 hb
    have l := carryS l hb
    have hgl := hl.lt
    obtain ⟨⟨g, cap, rfl⟩, _⟩ := hl.1, hl.2
    have hcap := LB.capLe hl
    by_cases h256 : t.length = 256
    · obtain ⟨hv, hc⟩ := par_some hu h256
      have hcell := LB.cellD hl 256 h256
      rw [h256] at hcap ⊢
      clear hb hl hgl hu h256
      have ar := fun (w : World) => run_arrayAt (P := Try.prog) (w := w) 24 _ 256 (some ⟨g, 0, none⟩) 256 cap Try.underlying24 (Nat.le_refl _)
      have Hv := Lib.hid hv; clear hv; have Hc := Lib.hid hc; clear hc; have Hcell := Lib.hid hcell; clear hcell
      go_wp2_with (first | (refine wpList_loadF rfl _ _ rfl _ rfl 256 _ Hcell.out Try.underlying24 rfl size24 ?_) | (refine wpList_storeR rfl _ _ _ rfl _ _ rfl rfl k1.out size24 (byteRow_size _ _) (byteRow_size _ _) (byteRow_all _ _) ?_))
      refine bodyPost_ret (results_cellB_tmp rfl _ _ _ rfl (k1.out.setRow _) Try.underlying24 rfl size24 (byteRow_size _ _)) rfl ⟨ret_pairZ (by rw [Hv.out]; exact byteRow_congr fun i _ => by simp [List.getD_eq_getElem?_getD]) Hc.out.symm, below_row l.out (by omega) _⟩
    · obtain ⟨hv, hc⟩ := par_not hu h256
      have e1 : ((t.length : Int) != 256) = true := by rw [bne_iff_ne]; omega
      clear hb hl hgl hu h256
      have Hv := Lib.hid hv; clear hv; have Hc := Lib.hid hc; clear hc
      go_wp2_with (first | (refine wpList_buildZ rfl _ rfl builtBox ?_) | (refine wpList_storeR rfl _ _ _ rfl _ _ rfl rfl k1.out size24 (byteRow_size _ _) (byteRow_size _ _) (byteRow_all _ _) ?_))
      refine bodyPost_ret (results_cellB_tmp rfl _ _ _ rfl (k1.out.setRow _) Try.underlying24 rfl size24 (byteRow_size _ _)) rfl ⟨ret_pairZ (by rw [Hv.out]) Hc.out.symm, below_row l.out (by omega) _⟩
  · have k1 := carryB k1 hb
    have l := carryS l hb
    obtain ⟨hv, hc⟩ := par_none hu
    clear hb hu
    have Hv := Lib.hid hv; clear hv; have Hc := Lib.hid hc; clear hc
    go_wp2_with (first | (refine wpList_buildZ rfl _ rfl builtBox ?_) | (refine wpList_storeR rfl _ _ _ rfl _ _ rfl rfl k1.out size24 (byteRow_size _ _) (byteRow_size _ _) (byteRow_all _ _) ?_))
    refine bodyPost_ret (results_cellB_tmp rfl _ _ _ rfl (k1.out.setRow _) Try.underlying24 rfl size24 (byteRow_size _ _)) rfl ⟨ret_pairZ (by rw [Hv.out]) Hc.out.symm, below_row l.out (by omega) _⟩
set_option maxRecDepth 100000 in
set_option maxHeartbeats 1600000 in
theorem fnExactParseBox.walk (s : ByteArray) (w : World) (hs : s.size ≤ maxLen) :
    Calls Try.prog 12 #[.string s] w fun e w' => e = .returned (.bool true) ∧ Below w.heap.size w w' := by
  by_cases hn : s.size ≤ 1048576
  · have hn' : ¬ (1048576 : Int) < (s.size : Int) := by omega
    clear hs
    have l := Lib.hid (Below.refl w.heap.size w)
    go_enter Try.func12, Try.ntmps12
    go_wp2_with fail
    refine (specParseBox s _ hn).mono ?_
    rintro e wx ⟨rfl, hb⟩
    have l := carryS l hb
    clear hb
    go_wp2_with (refine wpList_storeNew rfl _ _ _ rfl _ rfl rfl zeroBox size24 (byteRow_size _ _) (byteRow_size _ _) (byteRow_all _ _) ?_; intro wy kr hb; have l := carryS l hb; have kr := Lib.hid kr; clear hb)
    refine (implParseBox s _ hn).mono ?_
    rintro e wx ⟨rfl, hb⟩
    have kr := carryB kr hb
    have l := carryS l hb
    clear hb
    go_wp2_with (first | (refine wpList_loadH rfl _ _ rfl _ rfl (by assumption) Try.underlying24 rfl size24 (byteRow_size _ _) ?_) | (refine wpList_storeNew rfl _ _ _ rfl _ rfl rfl zeroBox size24 (byteRow_size _ _) (byteRow_size _ _) (byteRow_all _ _) ?_; intro wy ks hb; have kr := carryB kr hb; have l := carryS l hb; have ks := Lib.hid ks; clear hb))
    refine (eqBox _ _).mono ?_
    rintro e wx ⟨rfl, hb⟩
    have l := carryS l hb
    clear hb
    go_wp2_with fail
    go_ret
    exact ⟨rfl, l.out⟩
  · have hn' : (1048576 : Int) < (s.size : Int) := by omega
    clear hs
    go_enter Try.func12, Try.ntmps12
    go_wp2
    go_ret
    exact ⟨rfl, Below.refl _ _⟩
end Go.Proofs.Ytdhlfbipljelcaa
