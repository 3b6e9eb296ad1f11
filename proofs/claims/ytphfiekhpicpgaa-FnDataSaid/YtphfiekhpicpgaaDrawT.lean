/- Contracts: the drawing of differences, of biases, of powers and of rotations. No condition. -/
import Derived.Test.YtphfiekhpicpgaaRows
import Derived.Test.YtphfiekhpicpgaaDrawB
set_option linter.unusedVariables false
namespace Go.Proofs.Ytphfiekhpicpgaa
open Go.RowKit
theorem results_cellB_tmp2 {P : Program} {fn : Func} {p u u2 : Tmp} {ty : TypeId} (h : fn.results = #[.cell p ty, .tmp u, .tmp u2]) (tmps : Array Value) (w : World) (g : Nat) {t : TypeId} {cs : Array Value} {d : TypeDesc} {n : Nat}
    (hp : tmps.getD p undef = .pointer (some ⟨g, 0, none⟩)) (hg : Blk w g t cs)
    (hu : P.underlying ty = some d) (hd : (match d with | .struct _ | .array _ _ => true | _ => false) = true) (hi : (P.info? ty).map (·.size) = some n) (hn : cs.size = n) :
    (results fn tmps).run P w = .ok (.tuple #[.agg cs, tmps.getD u undef, tmps.getD u2 undef]) w := by
  have hp' : tmps[p]?.getD undef = .pointer (some ⟨g, 0, none⟩) := by simpa using hp
  have hl := run_loadVar_row (P := P) w g t ty cs (0, 0) d hg hu hd (by rw [hi, hn])
  simp [results, h, hp', asAddr, hl]
def pks (c : Nat) : Nat → Int := fun i => (#[1, 2, 3, 127, 254, 255, 0, 256, 1 + (c : Int)] : Array Int).getD i 0
theorem pks_in {c : Nat} (hc : c < 255) {i : Nat} (hi : i < 9) : ∃ k : Nat, pks c i = (k : Int) ∧ k ≤ 256 := by
  match i, hi with
  | 0, _ => exact ⟨1, rfl, by omega⟩
  | 1, _ => exact ⟨2, rfl, by omega⟩
  | 2, _ => exact ⟨3, rfl, by omega⟩
  | 3, _ => exact ⟨127, rfl, by omega⟩
  | 4, _ => exact ⟨254, rfl, by omega⟩
  | 5, _ => exact ⟨255, rfl, by omega⟩
  | 6, _ => exact ⟨0, rfl, by omega⟩
  | 7, _ => exact ⟨256, rfl, by omega⟩
  | 8, _ => exact ⟨c + 1, Int.add_comm 1 (c : Int), by omega⟩
theorem kept_own {w w' : World} {B g : Nat} {e : TypeId} {v : Value} {L : List Int} (h : LL w B e v L) (hg : w.grownBy w' (some g)) (hB : g < B) : LL w' B e v L :=
  World.ownsRow.kept h hg (.inr fun e => by have := (h.lt _ e).1; omega)
set_option maxRecDepth 100000 in
set_option maxHeartbeats 800000 in
theorem drawDifferencesOf {a : Option Addr} {n cap : Nat} {b : Nat → UInt8} (w : World) (hs : ByteS w a n cap b) (hn : n ≤ 4096) :
    Calls Try.prog 34 #[.slice a n cap] w fun e w' => ∃ (f : Nat → UInt8) (d : UInt8), e = .returned (.tuple #[.agg (byteRow 256 f), .int .u8 (d.toNat : Int)]) ∧ Below w.heap.size w w' := by
  have k0 := Lib.hid ((Blk.newAt (t := 27) (cs := Try.zeroCells27) (w := w) (n := w.heap.size) rfl).eq_ zeroBox)
  have l := Lib.hid ((Below.refl w.heap.size w).alloc (Nat.le_refl _) (.cells Try.zeroCells27 27))
  have hs := Lib.hid (hs.below l.out)
  go_enter Try.func34, Try.ntmps34
  go_wp2_with fail
  refine (l01From _ hs.out hn).mono ?_
  rintro e wx ⟨g, rfl, hS, hb⟩
  obtain ⟨ws, rfl⟩ : ∃ ws : World, ws = wx := ⟨_, rfl⟩
  have hgB := hS.1
  have hgB : w.heap.size ≤ g := by have := l.out.size; omega
  have hne : some w.heap.size ≠ some g := fun e => by have := k0.out.lt; injection e; have := hS.1; omega
  have k0 := carryB k0 hb
  have l := carryS l hb
  have hS := Lib.hid hS
  clear hb hs
  go_wp2_with fail
  refine (l02Spoil hS.out).mono ?_
  rintro e wx ⟨f, rfl, hs, hg⟩
  have k0 := Lib.hid (k0.out.grown hg hne)
  have l := Lib.hid (below_grown l.out hg l.out.size (fun k hk => by injection hk with hk; omega))
  have hS := Lib.hid hs
  clear hs hg
  go_wp2_with fail
  refine (l01Next hS.out 256 (by omega) (by omega)).mono ?_
  rintro e wx ⟨x, hx, rfl, hs, hg⟩
  have k0 := Lib.hid (k0.out.grown hg hne)
  have l := Lib.hid (below_grown l.out hg l.out.size (fun k hk => by injection hk with hk; omega))
  have hS := Lib.hid hs
  clear hs hg
  have hwx := wrapU8_small hx
  obtain ⟨d, hd⟩ : ∃ d : UInt8, (x : Int) = (d.toNat : Int) := ⟨UInt8.ofNat x, by rw [toNat_ofNat_lt hx]⟩
  rw [hd] at hwx ⊢
  go_wp2_with (refine wpList_storeR rfl _ _ _ rfl _ _ rfl rfl k0.out size27 (byteRow_size _ _) (byteRow_size _ _) (byteRow_all _ _) ?_)
  refine bodyPost_ret (results_cellB_tmp rfl _ _ _ rfl (k0.out.setRow _) Try.underlying27 rfl size27 (byteRow_size _ _)) rfl ⟨_, d, rfl, below_row l.out (Nat.le_refl _) _⟩
set_option maxRecDepth 100000 in
set_option maxHeartbeats 800000 in
theorem drawBiasOf {a : Option Addr} {n cap : Nat} {b : Nat → UInt8} (w : World) (hs : ByteS w a n cap b) (hn : n ≤ 4096) :
    Calls Try.prog 41 #[.slice a n cap] w fun e w' => ∃ (f : Nat → UInt8) (u v : UInt8), e = .returned (.tuple #[.agg (byteRow 256 f), .int .u8 (u.toNat : Int), .int .u8 (v.toNat : Int)]) ∧ Below w.heap.size w w' := by
  have k0 := Lib.hid ((Blk.newAt (t := 27) (cs := Try.zeroCells27) (w := w) (n := w.heap.size) rfl).eq_ zeroBox)
  have l := Lib.hid ((Below.refl w.heap.size w).alloc (Nat.le_refl _) (.cells Try.zeroCells27 27))
  have hs := Lib.hid (hs.below l.out)
  go_enter Try.func41, Try.ntmps41
  go_wp2_with fail
  refine (l01From _ hs.out hn).mono ?_
  rintro e wx ⟨g, rfl, hS, hb⟩
  obtain ⟨ws, rfl⟩ : ∃ ws : World, ws = wx := ⟨_, rfl⟩
  have hgB := hS.1
  have hgB : w.heap.size ≤ g := by have := l.out.size; omega
  have hne : some w.heap.size ≠ some g := fun e => by have := k0.out.lt; injection e; have := hS.1; omega
  have k0 := carryB k0 hb
  have l := carryS l hb
  have hS := Lib.hid hS
  clear hb hs
  go_wp2_with fail
  refine (l02Spoil hS.out).mono ?_
  rintro e wx ⟨f, rfl, hs, hg⟩
  have k0 := Lib.hid (k0.out.grown hg hne)
  have l := Lib.hid (below_grown l.out hg l.out.size (fun k hk => by injection hk with hk; omega))
  have hS := Lib.hid hs
  clear hs hg
  go_wp2_with fail
  refine (l01Next hS.out 256 (by omega) (by omega)).mono ?_
  rintro e wx ⟨x, hx, rfl, hs, hg⟩
  have k0 := Lib.hid (k0.out.grown hg hne)
  have l := Lib.hid (below_grown l.out hg l.out.size (fun k hk => by injection hk with hk; omega))
  have hS := Lib.hid hs
  clear hs hg
  have hwx := wrapU8_small hx
  obtain ⟨d, hd⟩ : ∃ d : UInt8, (x : Int) = (d.toNat : Int) := ⟨UInt8.ofNat x, by rw [toNat_ofNat_lt hx]⟩
  rw [hd] at hwx ⊢
  go_wp2_with fail
  refine (l01Next hS.out 256 (by omega) (by omega)).mono ?_
  rintro e wx ⟨y, hy, rfl, hs, hg⟩
  have k0 := Lib.hid (k0.out.grown hg hne)
  have l := Lib.hid (below_grown l.out hg l.out.size (fun k hk => by injection hk with hk; omega))
  have hS := Lib.hid hs
  clear hs hg
  have hwy := wrapU8_small hy
  obtain ⟨d2, hd2⟩ : ∃ d : UInt8, (y : Int) = (d.toNat : Int) := ⟨UInt8.ofNat y, by rw [toNat_ofNat_lt hy]⟩
  rw [hd2] at hwy ⊢
  go_wp2_with (refine wpList_storeR rfl _ _ _ rfl _ _ rfl rfl k0.out size27 (byteRow_size _ _) (byteRow_size _ _) (byteRow_all _ _) ?_)
  refine bodyPost_ret (results_cellB_tmp2 rfl _ _ _ rfl (k0.out.setRow _) Try.underlying27 rfl size27 (byteRow_size _ _)) rfl ⟨_, d, d2, rfl, below_row l.out (Nat.le_refl _) _⟩
set_option maxRecDepth 100000 in
set_option maxHeartbeats 800000 in
theorem drawPowerBox {a : Option Addr} {n cap : Nat} {b : Nat → UInt8} (w : World) (hs : ByteS w a n cap b) (hn : n ≤ 4096) :
    Calls Try.prog 7 #[.slice a n cap] w fun e w' => ∃ (m k : Nat), e = .returned (.tuple #[.int .i64 (m : Int), .int .i64 (k : Int)]) ∧ 256 ≤ m ∧ m ≤ 512 ∧ k ≤ 256 ∧ Below w.heap.size w w' := by
  have l := Lib.hid (Below.refl w.heap.size w)
  have hs := Lib.hid hs
  go_enter Try.func7, Try.ntmps7
  go_wp2_with fail
  refine (l01From _ hs.out hn).mono ?_
  rintro e wx ⟨g, rfl, hS, hb⟩
  obtain ⟨ws, rfl⟩ : ∃ ws : World, ws = wx := ⟨_, rfl⟩
  have hgB := hS.1
  have l := carryS l hb
  have hS := Lib.hid hS
  clear hb hs
  go_wp2_with fail
  refine (l01DrawField hS.out).mono ?_
  rintro e wx ⟨z, loz, hiz, rfl, hs, hg⟩
  obtain ⟨m, rfl⟩ : ∃ m : Nat, z = m := ⟨z.toNat, by omega⟩
  have l := Lib.hid (below_grown l.out hg l.out.size (fun k hk => by injection hk with hk; omega))
  have hS := Lib.hid hs
  clear hs hg
  go_wp2_with fail
  refine (l01Next hS.out 12 (by omega) (by omega)).mono ?_
  rintro e wx ⟨x, hx, rfl, hs, hg⟩
  have l := Lib.hid (below_grown l.out hg l.out.size (fun k hk => by injection hk with hk; omega))
  have hS := Lib.hid hs
  clear hs hg
  obtain ⟨y, hy, hq⟩ : ∃ y : Nat, y ≤ 1 ∧ (x : Int).tdiv 11 = (y : Int) := ⟨x / 11, by omega, rfl⟩
  go_wp2_with fail
  refine (l01Next hS.out 255 (by omega) (by omega)).mono ?_
  rintro e wx ⟨c, hc, rfl, hs, hg⟩
  have l := Lib.hid (below_grown l.out hg l.out.size (fun k hk => by injection hk with hk; omega))
  have hS := Lib.hid hs
  clear hs hg
  have hwc : wrap64 (1 + (c : Int)) = 1 + (c : Int) := by unfold wrap64; omega
  have hwm : wrap64 ((m : Int) + (y : Int)) = (m : Int) + (y : Int) := by unfold wrap64; omega
  go_wp2_with fail
  obtain ⟨wt, rfl⟩ : ∃ wt : World, wt = wx := ⟨_, rfl⟩
  have hb := (Below.refl wt.heap.size wt).alloc (Nat.le_refl _) (.cells #[.int .i64 1, .int .i64 2, .int .i64 3, .int .i64 127, .int .i64 254, .int .i64 255, .int .i64 0, .int .i64 256, .int .i64 (1 + (c : Int))] 2)
  have kl : Lst (wt.alloc (.cells #[.int .i64 1, .int .i64 2, .int .i64 3, .int .i64 127, .int .i64 254, .int .i64 255, .int .i64 0, .int .i64 256, .int .i64 (1 + (c : Int))] 2)) wt.heap.size 9 (pks c) := ⟨(Blk.new wt _ _).lt, fun i hi => ((Blk.new wt 2 _).cell i).trans (by match i, hi with | 0, _ | 1, _ | 2, _ | 3, _ | 4, _ | 5, _ | 6, _ | 7, _ | 8, _ => rfl)⟩
  have nkl : wt.heap.size ≠ g := by have := hS.out.lt; omega
  have hs := hS.out.below hb
  have l := carryS l hb
  clear hb hS
  refine (l01Pick (cap := 9) hs kl nkl (by omega) (by omega)).mono ?_
  rintro e wx ⟨i, hi, rfl, hs, hg⟩
  have l := Lib.hid (below_grown l.out hg l.out.size (fun k hk => by injection hk with hk; omega))
  obtain ⟨p, hp, hp2⟩ := pks_in hc hi
  rw [hp]
  clear kl hs hg
  go_wp2_with fail
  go_ret2
  exact ⟨m + y, p, rfl, by omega, by omega, hp2, l.out⟩
set_option maxRecDepth 100000 in
set_option maxHeartbeats 800000 in
theorem drawRotationBox {a : Option Addr} {n cap : Nat} {b : Nat → UInt8} (w : World) (hs : ByteS w a n cap b) (hn : n ≤ 4096) :
    Calls Try.prog 10 #[.slice a n cap] w fun e w' => ∃ (v : Value) (L : List Int) (d : UInt8), e = .returned (.tuple #[v, .int .u8 (d.toNat : Int)]) ∧ LL w' w.heap.size 2 v L ∧ L.length ≤ 9 ∧ Below w.heap.size w w' := by
  have l := Lib.hid (Below.refl w.heap.size w)
  have hs := Lib.hid hs
  go_enter Try.func10, Try.ntmps10
  go_wp2_with fail
  refine (l01From _ hs.out hn).mono ?_
  rintro e wx ⟨g, rfl, hS, hb⟩
  obtain ⟨ws, rfl⟩ : ∃ ws : World, ws = wx := ⟨_, rfl⟩
  have hgB := hS.1
  have l := carryS l hb
  have hS := Lib.hid hS
  clear hb hs
  obtain ⟨i0, hi, hz, hsz, hby⟩ := info_parts info_long
  have hgs := hS.out.lt
  have hws := l.out.size
  have hSa := hS.out.below ((Below.refl _ _).alloc (Nat.le_refl _) (.cells #[] 2))
  go_wp2_with fail
  go_loopw [6, 5] (fun i v wr => ∃ (k : Nat) (L : List Int), k ≤ 8 ∧ L.length ≤ k ∧ i = .int .i64 k ∧ ws.heap.size ≤ wr.heap.size ∧ LL wr ws.heap.size 2 v L ∧ Src wr w.heap.size g ∧ Below w.heap.size w wr)
    (fun i _ _ => 8 - (intOf i).toNat)
  case atStart => exact ⟨0, [], by omega, Nat.le_refl _, rfl, by simp, LL.new rfl (Nat.le_refl _), hSa, l.out.alloc l.out.size _⟩
  case round =>
    clear hS l hSa
    obtain ⟨k, L, hk, hL, rfl, hW, hl, hs, hb⟩ := hrel
    by_cases hlt : k < 8
    · have hki : (k : Int) < 8 := by omega
      have Hl := Lib.hid hl; clear hl; have Hs := Lib.hid hs; clear hs; have Hb := Lib.hid hb; clear hb
      go_wp2_with fail
      refine (l01Next Hs.out 3 (by omega) (by omega)).mono ?_
      rintro e wx ⟨x, hx, rfl, hs, hg⟩
      have hW := Nat.le_trans hW hg.size
      have Hl := Lib.hid (kept_own Hl.out hg hgs)
      have Hb := Lib.hid (below_grown Hb.out hg Hb.out.size (fun k hk => by injection hk with hk; omega))
      have Hs := Lib.hid hs
      clear hs hg
      by_cases h0 : x = 0
      · subst h0
        go_wp2_with (at_builtin; go_loud (refine wpList_appendL rfl _ _ _ rfl ws.heap.size 2 i0 Try.underlying30 hi hz hsz hby _ _ rfl (Hl.out.alloc _) _ _ (k : Int) rfl (cell_new1 rfl) (by omega) (by simp; omega) ?_; intro vy wy hl hg; have hW : ws.heap.size ≤ wy.heap.size := (by have := hg.size; simp at this; omega); have BB := Lib.hid (below_grown (Hb.out.alloc (by have := Hb.out.size; omega) _) hg (by have := Hb.out.size; simp; omega) (fun q hq => by have := (Hl.out.lt q hq).1; omega)); have HS := Lib.hid ((Hs.out.below ((Below.refl _ _).alloc (Nat.le_refl _) _)).grown hg (fun e => by have := (Hl.out.lt _ e.symm).1; omega) (fun q hq => by have := (Hl.out.lt q hq).1; omega)); have LY := Lib.hid hl; clear hl hg))
        go_roundw
        case rel => exact ⟨k + 1, _, by omega, by simp; omega, by go_num, hW, LY.out, HS.out, BB.out⟩
        case measure => simp [intOf]; omega
      · have h1 : ¬ (x : Int) = 0 := by omega
        go_wp2_with fail
        go_roundw
        case rel => exact ⟨k + 1, L, by omega, by omega, by go_num, hW, Hl.out, Hs.out, Hb.out⟩
        case measure => simp [intOf]; omega
    · obtain rfl : k = 8 := by omega
      have Hl := Lib.hid hl; clear hl; have Hs := Lib.hid hs; clear hs; have Hb := Lib.hid hb; clear hb
      go_wp2_with fail
      refine (l01Next Hs.out 16 (by omega) (by omega)).mono ?_
      rintro e wx ⟨c, hc, rfl, hs, hg⟩
      have hW := Nat.le_trans hW hg.size
      have Hl := Lib.hid (kept_own Hl.out hg hgs)
      have Hb := Lib.hid (below_grown Hb.out hg Hb.out.size (fun k hk => by injection hk with hk; omega))
      have Hs := Lib.hid hs
      clear hs hg
      rcases (by omega : c = 0 ∨ c = 1 ∨ (2 ≤ c)) with rfl | rfl | hc2
      · go_wp2_with (at_builtin; refine wpList_appendL rfl _ _ _ rfl ws.heap.size 2 i0 Try.underlying30 hi hz hsz hby _ _ rfl (Hl.out.alloc _) _ _ 8 rfl (cell_new1 rfl) (by omega) (by simp; omega) ?_; intro vy wy hl hg; have hW : ws.heap.size ≤ wy.heap.size := (by have := hg.size; simp at this; omega); have BB := Lib.hid (below_grown (Hb.out.alloc (by have := Hb.out.size; omega) _) hg (by have := Hb.out.size; simp; omega) (fun q hq => by have := (Hl.out.lt q hq).1; omega)); have HS := Lib.hid ((Hs.out.below ((Below.refl _ _).alloc (Nat.le_refl _) _)).grown hg (fun e => by have := (Hl.out.lt _ e.symm).1; omega) (fun q hq => by have := (Hl.out.lt q hq).1; omega)); have LY := Lib.hid hl; clear hl hg)
        refine (l01Next HS.out 256 (by omega) (by omega)).mono ?_
        rintro e wx ⟨x, hx, rfl, hs, hg⟩
        have LY := Lib.hid (kept_own LY.out hg hgs)
        have BB := Lib.hid (below_grown BB.out hg BB.out.size (fun k hk => by injection hk with hk; omega))
        clear hs hg
        have hwx := wrapU8_small hx
        obtain ⟨d, hd⟩ : ∃ d : UInt8, (x : Int) = (d.toNat : Int) := ⟨UInt8.ofNat x, by rw [toNat_ofNat_lt hx]⟩
        rw [hd] at hwx ⊢
        go_wp2_with fail
        go_ret2
        exact ⟨_, _, d, rfl, LY.out.mono hws, by simp; omega, BB.out⟩
      · go_wp2_with (at_builtin; refine wpList_appendL rfl _ _ _ rfl ws.heap.size 2 i0 Try.underlying30 hi hz hsz hby _ _ rfl (Hl.out.alloc _) _ _ 0 rfl (cell_new1 rfl) (by omega) (by simp; omega) ?_; intro vy wy hl hg; have hW : ws.heap.size ≤ wy.heap.size := (by have := hg.size; simp at this; omega); have BB := Lib.hid (below_grown (Hb.out.alloc (by have := Hb.out.size; omega) _) hg (by have := Hb.out.size; simp; omega) (fun q hq => by have := (Hl.out.lt q hq).1; omega)); have HS := Lib.hid ((Hs.out.below ((Below.refl _ _).alloc (Nat.le_refl _) _)).grown hg (fun e => by have := (Hl.out.lt _ e.symm).1; omega) (fun q hq => by have := (Hl.out.lt q hq).1; omega)); have LY := Lib.hid hl; clear hl hg)
        refine (l01Next HS.out 256 (by omega) (by omega)).mono ?_
        rintro e wx ⟨x, hx, rfl, hs, hg⟩
        have LY := Lib.hid (kept_own LY.out hg hgs)
        have BB := Lib.hid (below_grown BB.out hg BB.out.size (fun k hk => by injection hk with hk; omega))
        clear hs hg
        have hwx := wrapU8_small hx
        obtain ⟨d, hd⟩ : ∃ d : UInt8, (x : Int) = (d.toNat : Int) := ⟨UInt8.ofNat x, by rw [toNat_ofNat_lt hx]⟩
        rw [hd] at hwx ⊢
        go_wp2_with fail
        go_ret2
        exact ⟨_, _, d, rfl, LY.out.mono hws, by simp; omega, BB.out⟩
      · have g0 : ¬ (c : Int) = 0 := by omega
        have g1 : ¬ (c : Int) = 1 := by omega
        go_wp2_with fail
        refine (l01Next Hs.out 256 (by omega) (by omega)).mono ?_
        rintro e wx ⟨x, hx, rfl, hs, hg⟩
        have hW := Nat.le_trans hW hg.size
        have Hl := Lib.hid (kept_own Hl.out hg hgs)
        have Hb := Lib.hid (below_grown Hb.out hg Hb.out.size (fun k hk => by injection hk with hk; omega))
        clear hs hg
        have hwx := wrapU8_small hx
        obtain ⟨d, hd⟩ : ∃ d : UInt8, (x : Int) = (d.toNat : Int) := ⟨UInt8.ofNat x, by rw [toNat_ofNat_lt hx]⟩
        rw [hd] at hwx ⊢
        go_wp2_with fail
        go_ret2
        exact ⟨_, L, d, rfl, Hl.out.mono hws, by omega, Hb.out⟩
end Go.Proofs.Ytphfiekhpicpgaa
