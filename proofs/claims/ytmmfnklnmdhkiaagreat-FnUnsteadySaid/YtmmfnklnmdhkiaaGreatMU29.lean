import Derived.Test.YtmmfnklnmdhkiaaGreatMU28
import Derived.Test.YtmmfnklnmdhkiaaGreatMU03
import Derived.Test.YtmmfnklnmdhkiaaGreatMU27
import Derived.Test.YtmmfnklnmdhkiaaGreatMU16
import Derived.Test.YtmmfnklnmdhkiaaGreatMU26
/- Draws of the sixth week: a ground, a number, a factor, how long a step is. -/
namespace Go.Proofs.YtmmfnklnmdhkiaaGreat
open Go.ChangeShapes Go.WideShapes Go.ChangeAt Go.RowKit
set_option linter.unusedVariables false
set_option linter.unusedSimpArgs false
attribute [local irreducible] Calls
def partOf (x : Nat) : Nat := (floatBits .quo .f32 (floatOfInt .f32 (x : Int)) 1140850688).getD 0
def numOf (x : Nat) : Nat := (floatBits .quo .f32 (floatOfInt .f32 ((x : Int) - 3200)) 1115684864).getD 0
def facOf (x : Nat) : Nat := (floatBits .quo .f32 (floatOfInt .f32 ((x : Int) - 128)) 1126170624).getD 0
theorem part_all : ∀ x : Nat, x < 32 → (floatBits .quo .f32 (floatOfInt .f32 (x : Int)) 1140850688).isSome = true ∧ plain (partOf x) = true := by
  have h : (List.range 32).all (fun (x : Nat) => (floatBits .quo .f32 (floatOfInt .f32 (x : Int)) 1140850688).isSome && plain (partOf x)) = true := by kernel_rfl
  intro x hx
  have := List.all_eq_true.1 h x (List.mem_range.2 hx)
  simpa using this
theorem fac_all : ∀ x : Nat, x < 257 → (floatBits .quo .f32 (floatOfInt .f32 ((x : Int) - 128)) 1126170624).isSome = true ∧ plain (facOf x) = true := by
  have h : (List.range 257).all (fun (x : Nat) => (floatBits .quo .f32 (floatOfInt .f32 ((x : Int) - 128)) 1126170624).isSome && plain (facOf x)) = true := by kernel_rfl
  intro x hx
  have := List.all_eq_true.1 h x (List.mem_range.2 hx)
  simpa using this
/-- The mean of a tide: a number over 8. -/
def meanOf (x : Nat) : Nat := (floatBits .quo .f32 (numOf x) 1090519040).getD 0
theorem num_all : ∀ x : Nat, x < 6401 → (floatBits .quo .f32 (floatOfInt .f32 ((x : Int) - 3200)) 1115684864).isSome = true ∧ (floatBits .quo .f32 (numOf x) 1090519040).isSome = true ∧ plain (meanOf x) = true := by
  have h : (List.range 6401).all (fun (x : Nat) => (floatBits .quo .f32 (floatOfInt .f32 ((x : Int) - 3200)) 1115684864).isSome && (floatBits .quo .f32 (numOf x) 1090519040).isSome && plain (meanOf x)) = true := by kernel_rfl
  intro x hx
  have := List.all_eq_true.1 h x (List.mem_range.2 hx)
  simpa [and_assoc] using this
theorem part_is {x : Nat} (h : x < 32) : floatBits .quo .f32 (floatOfInt .f32 (x : Int)) 1140850688 = some (partOf x) := by
  obtain ⟨r, hr⟩ := Option.isSome_iff_exists.1 (part_all x h).1
  unfold partOf; rw [hr]; rfl
theorem fac_is {x : Nat} (h : x < 257) : floatBits .quo .f32 (floatOfInt .f32 ((x : Int) - 128)) 1126170624 = some (facOf x) := by
  obtain ⟨r, hr⟩ := Option.isSome_iff_exists.1 (fac_all x h).1
  unfold facOf; rw [hr]; rfl
theorem num_is {x : Nat} (h : x < 6401) : floatBits .quo .f32 (floatOfInt .f32 ((x : Int) - 3200)) 1115684864 = some (numOf x) := by
  obtain ⟨r, hr⟩ := Option.isSome_iff_exists.1 (num_all x h).1
  unfold numOf; rw [hr]; rfl
theorem mean_is {x : Nat} (h : x < 6401) : floatBits .quo .f32 (numOf x) 1090519040 = some (meanOf x) := by
  obtain ⟨r, hr⟩ := Option.isSome_iff_exists.1 (num_all x h).2.1
  unfold meanOf; rw [hr]; rfl
theorem below_src (w : World) (v : Value) {q k : Nat} (hq : w.heap.size = q) {w2 : World} (h : (w.alloc (.cells #[v, .int .i64 0, .int .u64 0] 101)).grownBy w2 (some q)) : Below w.heap.size w w2 :=
  (below1 w _).grown h (by simp) (fun k e => by injection e; omega)
set_option maxRecDepth 100000 in
set_option maxHeartbeats 400000 in
theorem p6Pick_any (v : Value) (n : Nat) (m : Int) (h1 : 1 ≤ m) (h2 : m ≤ 1099511627776) (w : World) (hv : Bytes w w.heap.size v n) :
    Calls Tryz.prog 12 #[v, .int .i64 m] w fun e w' => ∃ x : Int, 0 ≤ x ∧ x < m ∧ e = .returned (.int .i64 x) ∧ Below w.heap.size w w' := by
  have hs := src_new hv
  have hfr := l00From_any v n w hv
  have hbs := fun (w2 : World) (q : Nat) hq h => below_src w v (k := 0) (q := q) hq (w2 := w2) h
  generalize w.alloc (.cells #[v, .int .i64 0, .int .u64 0] 101) = W1 at *
  have hbs := fun w2 h => hbs w2 _ rfl h
  generalize hq : w.heap.size = q at *
  have hp := pick_any q 0 m (by omega) h1 h2 W1 hs
  clear hs hv
  go_enter Tryz.func12, Tryz.ntmps12
  go_wp2_with (first | (go_at_call 31; refine hfr.mono ?_; rintro e w1 ⟨rfl, hw⟩; subst hw) | (go_at_call 32; refine hp.mono ?_; rintro e w2 ⟨x, ⟨x0, x1⟩, rfl, hs2, hg2⟩))
  go_ret
  exact ⟨x, x0, x1, rfl, hbs _ hg2⟩
set_option maxRecDepth 100000 in
set_option maxHeartbeats 400000 in
theorem p6Part_any (v : Value) (n : Nat) (w : World) (hv : Bytes w w.heap.size v n) :
    Calls Tryz.prog 6 #[v] w fun e w' => ∃ x : Nat, x < 32 ∧ e = .returned (.float .f32 (partOf x)) ∧ Below w.heap.size w w' := by
  have hs := src_new hv
  have hfr := l00From_any v n w hv
  have hbs := fun (w2 : World) (q : Nat) hq h => below_src w v (k := 0) (q := q) hq (w2 := w2) h
  generalize w.alloc (.cells #[v, .int .i64 0, .int .u64 0] 101) = W1 at *
  have hbs := fun w2 h => hbs w2 _ rfl h
  generalize hq : w.heap.size = q at *
  have hp := pick_any q 0 32 (by omega) (by omega) (by omega) W1 hs
  clear hs hv
  go_enter Tryz.func6, Tryz.ntmps6
  go_wp2_with (first | (go_at_call 31; refine hfr.mono ?_; rintro e w1 ⟨rfl, hw⟩; subst hw) | (go_at_call 32; refine hp.mono ?_; rintro e w2 ⟨x, ⟨x0, x1⟩, rfl, hs2, hg2⟩))
  go_ret
  obtain ⟨m, rfl⟩ : ∃ m : Nat, x = m := ⟨x.toNat, by omega⟩
  have hf := part_is (x := m) (by omega)
  exact ⟨m, by omega, float_eq (fres_some hf), by rw [fcnt_some hf]; exact hbs _ hg2⟩
set_option maxRecDepth 100000 in
set_option maxHeartbeats 400000 in
theorem l03Number_any (b k : Nat) (hk : k + 1 < 1000000) (w : World) (hs : Src w b k) :
    Calls Tryz.prog 54 #[.pointer (some ⟨b, 0, none⟩)] w (GaveF w b (k + 2) fun r => ∃ x, x < 6401 ∧ r = numOf x) := by
  have hx := pick_any b k 6401 hk (by omega) (by omega) w hs
  go_enter Tryz.func54, Tryz.ntmps54
  go_wp2_with (go_at_call 32; refine hx.mono ?_; rintro e w1 ⟨x, ⟨x0, x1⟩, rfl, hs1, hg1⟩)
  go_ret
  obtain ⟨m, rfl⟩ : ∃ m : Nat, x = m := ⟨x.toNat, by omega⟩
  have hf := num_is (x := m) (by omega)
  exact ⟨numOf m, ⟨m, by omega, rfl⟩, float_eq (fres_some hf), by rw [fcnt_some hf]; exact hs1, by rw [fcnt_some hf]; exact hg1⟩
set_option maxRecDepth 100000 in
set_option maxHeartbeats 400000 in
theorem p6Number_any (v : Value) (n : Nat) (w : World) (hv : Bytes w w.heap.size v n) :
    Calls Tryz.prog 19 #[v] w fun e w' => ∃ x : Nat, x < 6401 ∧ e = .returned (.float .f32 (numOf x)) ∧ Below w.heap.size w w' := by
  have hs := src_new hv
  have hfr := l00From_any v n w hv
  have hbs := fun (w2 : World) (q : Nat) hq h => below_src w v (k := 0) (q := q) hq (w2 := w2) h
  generalize w.alloc (.cells #[v, .int .i64 0, .int .u64 0] 101) = W1 at *
  have hbs := fun w2 h => hbs w2 _ rfl h
  generalize hq : w.heap.size = q at *
  have hp := l03Number_any q 0 (by omega) W1 hs
  clear hs hv
  go_enter Tryz.func19, Tryz.ntmps19
  go_wp2_with (first | (go_at_call 31; refine hfr.mono ?_; rintro e w1 ⟨rfl, hw⟩; subst hw) | (go_at_call 54; refine hp.mono ?_; rintro e w2 ⟨y, ⟨x, hx, hy⟩, rfl, hs2, hg2⟩))
  go_ret
  exact ⟨x, hx, by subst hy; rfl, hbs _ hg2⟩
set_option maxRecDepth 100000 in
set_option maxHeartbeats 400000 in
theorem p6Factor_any (v : Value) (n : Nat) (w : World) (hv : Bytes w w.heap.size v n) :
    Calls Tryz.prog 20 #[v] w fun e w' => ∃ x y : Nat, x < 257 ∧ y < 257 ∧ e = .returned (.complex .f32 (facOf x) (facOf y)) ∧ Below w.heap.size w w' := by
  have hs := src_new hv
  have hfr := l00From_any v n w hv
  have hbs := fun (w2 : World) (q : Nat) hq h => below_src w v (k := 0) (q := q) hq (w2 := w2) h
  generalize w.alloc (.cells #[v, .int .i64 0, .int .u64 0] 101) = W1 at *
  have hbs := fun w2 h => hbs w2 _ rfl h
  generalize hq : w.heap.size = q at *
  have hp := pick_any q 0 257 (by omega) (by omega) (by omega) W1 hs
  clear hs hv
  go_enter Tryz.func20, Tryz.ntmps20
  go_upto_region 3 with (first | (go_at_call 31; refine hfr.mono ?_; rintro e w1 ⟨rfl, hw⟩; subst hw) | (go_at_call 32; refine hp.mono ?_; rintro e w2 ⟨x, ⟨x0, x1⟩, rfl, hs2, hg2⟩))
  obtain ⟨m, rfl⟩ : ∃ m : Nat, x = m := ⟨x.toNat, by omega⟩
  have hf := fac_is (x := m) (by omega)
  rw [fcnt_some hf]
  rw [fres_some hf]
  have hp2 := pick_any q (0 + 2) 257 (by omega) (by omega) (by omega) w2 hs2
  clear hs2
  go_wp2_with (first | (go_at_call 32; refine hp2.mono ?_; rintro e w3 ⟨y, ⟨y0, y1⟩, rfl, hs3, hg3⟩) | (go_at_call 55; refine (l06Wave_any _ _ _).mono ?_; rintro e w' ⟨rfl, hw⟩; rw [hw]; clear hw w'))
  go_ret
  obtain ⟨l, rfl⟩ : ∃ m : Nat, y = m := ⟨y.toNat, by omega⟩
  have hf2 := fac_is (x := l) (by omega)
  refine ⟨m, l, by omega, by omega, ?_, ?_⟩
  · rw [fres_some hf2]; rfl
  · rw [fcnt_some hf2]; exact hbs _ (hg2.trans hg3)
set_option maxRecDepth 100000 in
set_option maxHeartbeats 400000 in
theorem p6Ground_any (v : Value) (n : Nat) (w : World) (hv : Bytes w w.heap.size v n) :
    Calls Tryz.prog 5 #[v] w (GotG w) := by
  go_enter Tryz.func5, Tryz.ntmps5
  go_upto_region 1 with (refine wpList_alloc_as rfl rfl zero66 ?_)
  have hb0 : Blk (w.alloc (.cells zeroGr.cells 30)) w.heap.size zeroGr.cells 30 := Blk.new _ _ _
  have hbel : Below w.heap.size w (w.alloc (.cells zeroGr.cells 30)) := below1 _ _
  have hv1 : Bytes (w.alloc (.cells zeroGr.cells 30)) (w.alloc (.cells zeroGr.cells 30)).heap.size v n := by
    obtain ⟨a, c, h1, h2, h3⟩ := hv.move (w' := w.alloc (.cells zeroGr.cells 30)) (fun r hr => heap_alloc_old w _ hr)
    refine ⟨a, c, h1, h2, fun j hj => ?_⟩
    obtain ⟨r, o, x, g1, g2, g3⟩ := h3 j hj
    exact ⟨r, o, x, g1, by simp; omega, g3⟩
  change Code.wp _ _ _ _ (w.alloc (.cells zeroGr.cells 30))
  generalize w.alloc (.cells zeroGr.cells 30) = W at *
  have lW := hb0.lt
  have hs := src_new hv1
  have hfr := l00From_any v n W hv1
  have hbs : Below w.heap.size w (W.alloc (.cells #[v, .int .i64 0, .int .u64 0] 101)) := hbel.alloc (by omega) _
  have hb0 := hb0.alloc (.cells #[v, .int .i64 0, .int .u64 0] 101)
  generalize W.alloc (.cells #[v, .int .i64 0, .int .u64 0] 101) = W1 at *
  generalize hq : W.heap.size = q at *
  have hdr := l01Drawn_any q 0 (by omega) W1 hs
  clear hs hv1 hv
  go_wp2_with (first | (go_at_call 31; refine hfr.mono ?_; rintro e w1 ⟨rfl, hw⟩; subst hw) | (go_at_call 30; refine hdr.mono ?_; rintro e w2 ⟨G, hG, rfl, hs2, hg2⟩; clear hdr) | (refine wpList_store_blk rfl rfl rfl rfl row66 (hb0.grown hg2 (fun e => by injection e; omega)) (Gr.size _) (Gr.size _) (Gr.one _) ?_))
  have hb2 := hb0.grown hg2 (fun e => by injection e; omega)
  exact bodyPost_row rfl rfl row66 (hb2.setRow _) (Gr.size _) rfl ⟨G, hG, rfl, below_setRow (hbs.grown hg2 (by have := hbs.size; omega) (fun k e => by injection e; omega)) (Nat.le_refl _) _⟩
end Go.Proofs.YtmmfnklnmdhkiaaGreat
/- The bits of the cells, all balances, how great a number is, and whether bytes are too many. -/
namespace Go.Proofs.YtmmfnklnmdhkiaaGreat
open Go.ChangeShapes Go.WideShapes Go.ChangeAt Go.RowKit
set_option linter.unusedVariables false
set_option linter.unusedSimpArgs false
attribute [local irreducible] Calls
set_option maxRecDepth 100000 in
set_option maxHeartbeats 400000 in
theorem f6big_any (a : Option Addr) (n c : Nat) (hn : n ≤ maxLen) (w : World) :
    Calls Tryz.prog 4 #[.slice a n c] w fun e w' => e = .returned (.bool (decide (4096 < n))) ∧ w' = w := by
  unfold maxLen at hn
  go_enter Tryz.func4, Tryz.ntmps4
  go_wp2_with fail
  go_ret
  refine ⟨bool_eq ?_, rfl⟩
  by_cases h : 4096 < n
  · rw [decide_eq_true h]; simp; omega
  · rw [decide_eq_false h]; simp; omega
set_option maxRecDepth 100000 in
set_option maxHeartbeats 400000 in
theorem cellsOf_any (g : Gr) (hg : g.ok) (hv : validG g = true) (w : World) :
    Calls Tryz.prog 10 #[.agg g.cells] w fun e w' => e = .returned (.tuple #[.int .u64 (maskOf (cellsTo g 64)), .int .i64 0]) ∧ Below w.heap.size w w' := by
  have hA : Blk (w.alloc (.cells g.cells 30)) w.heap.size g.cells 30 := Blk.new _ _ _
  have hbel := below1 w (.cells g.cells 30)
  go_enter Tryz.func10, Tryz.ntmps10
  go_upto_region 1 with (refine wpList_box_as rfl rfl rfl ?_)
  generalize (w.alloc (.cells g.cells 30)) = W at *
  have ho := l01Ok_any g _ hg W hA.gat
  rw [hv] at ho
  have hc := fun n => l01Cells_any g _ hg (W.drewN n) (hA.gat.drewN n)
  go_wp2_with (first | (go_at_call 39; refine ho.mono ?_; rintro e w1 ⟨rfl, m, rfl⟩) | (go_at_call 40; refine (hc m).mono ?_; rintro e w2 ⟨rfl, hw⟩; rw [hw]; clear hw w2))
  go_ret2
  exact ⟨rfl, below_drewN hbel _⟩
def GotB (g : Gr) (w : World) (e : Ending) (w' : World) : Prop := ∃ ff, e = .returned (.tuple #[.agg (fls 64 ff).toArray, .int .i64 0]) ∧ (∀ k, k < 64 → cn (ff k) = cn (balF g k)) ∧ Below w.heap.size w w'
set_option maxRecDepth 100000 in
set_option maxHeartbeats 400000 in
theorem balancesOf_any (g : Gr) (hg : g.ok) (hv : validG g = true) (hbo : balsOk g = true) (w : World) :
    Calls Tryz.prog 11 #[.agg g.cells] w (GotB g w) := by
  go_enter Tryz.func11, Tryz.ntmps11
  go_upto_region 1 with (first | (refine wpList_box_as rfl rfl rfl ?_) | (refine wpList_alloc_as rfl rfl zero64 ?_))
  have hA : Blk ((w.alloc (.cells g.cells 30)).alloc (.cells (fls 64 fun _ => 0).toArray 27)) w.heap.size g.cells 30 := (Blk.new _ _ _).alloc _
  have hS : Blk ((w.alloc (.cells g.cells 30)).alloc (.cells (fls 64 fun _ => 0).toArray 27)) (w.heap.size + 1) (fls 64 fun _ => 0).toArray 27 := Blk.new1 _ _ _ _
  have hbel := below2 w (.cells g.cells 30) (.cells (fls 64 fun _ => 0).toArray 27)
  change Code.wp _ _ _ _ ((w.alloc (.cells g.cells 30)).alloc (.cells (fls 64 fun _ => 0).toArray 27))
  generalize ((w.alloc (.cells g.cells 30)).alloc (.cells (fls 64 fun _ => 0).toArray 27)) = W at *
  have lS := hS.lt
  have ho := l01Ok_any g _ hg W hA.gat
  rw [hv] at ho
  have hbl := fun n => l01Balances_any g _ hg (validG_small hv) (W.drewN n) (hA.gat.drewN n)
  rw [hbo] at hbl
  go_upto_region 4 with (first | (go_at_call 39; refine ho.mono ?_; rintro e w1 ⟨rfl, m, rfl⟩) | (go_at_call 41; refine (hbl m).mono ?_; rintro e w2 ⟨ff, rfl, hff, hb2⟩; have hS2 := (hS.drewN m).below hb2 lS; have hB2 := (below_drewN hbel m).trans (hb2.mono (below_drewN hbel _).size)) | (refine wpList_alloc_as rfl rfl zero64 ?_) | (refine wpList_store_last rfl rfl rfl rfl rfl (by rw [fls_size]; kernel_rfl) (by rw [fls_size, fls_size]) (List.all_eq_true.2 (fls_one _ _)) ?_))
  have hF : Blk (w2.alloc (.cells (fls 64 ff).toArray 27)) w2.heap.size (fls 64 ff).toArray 27 := Blk.new _ _ _
  have hS3 := hS2.alloc (.cells (fls 64 ff).toArray 27)
  have hB3 := hB2.alloc (Nat.le_trans (below_drewN hbel m).size (hb2.size)) (.cells (fls 64 ff).toArray 27)
  change Code.wp _ _ _ _ (w2.alloc (.cells (fls 64 ff).toArray 27))
  generalize (w2.alloc (.cells (fls 64 ff).toArray 27)) = W3 at *
  go_wp2_with (first | (refine wpList_load_blk rfl rfl rfl row64 hF (fls_size _ _) ?_) | (refine wpList_store_blk rfl rfl rfl rfl row64 hS3 (fls_size _ _) (fls_size _ _) (fls_one _ _) ?_))
  exact bodyPost_row2 rfl rfl row64 (hS3.setRow _) (fls_size _ _) rfl ⟨ff, rfl, hff trivial, below_setRow hB3 (by omega) _⟩
theorem fgt_of_fle {a c : Nat} (h : fle a c = true) : fgt a c = false := by
  unfold fle at h
  unfold fgt
  cases ho : FloatKind.f32.format.order a c with
  | none => rfl
  | some o => rw [ho] at h; cases o <;> first | rfl | simp at h
theorem neg_low (b : Nat) : Op.negFloat .f32 b % 2147483648 = b % 2147483648 := by
  have h : Op.negFloat .f32 b = b ^^^ 2 ^ 31 := rfl
  rw [h]
  have := @Nat.xor_mod_two_pow b (2 ^ 31) 31
  simpa using this
theorem neg_sign (b : Nat) : (Op.negFloat .f32 b / 2147483648 % 2 == 1) = !(b / 2147483648 % 2 == 1) := by
  have h : Op.negFloat .f32 b = b ^^^ 2 ^ 31 := rfl
  have h2 : ∀ x : Nat, (x / 2147483648 % 2 == 1) = x.testBit 31 := fun x => by
    rw [Nat.testBit_eq_decide_div_mod_eq]; rfl
  rw [h2, h2, h, Nat.testBit_xor]
  have : (2 ^ 31 : Nat).testBit 31 = true := by decide
  rw [this, Bool.xor_true]
theorem read_low {b : Nat} (h : b % 2147483648 = 0) : Ieee.single.read b = Ieee.single.read 0 ∨ Ieee.single.read b = Ieee.single.read 2147483648 := by
  have e1 : Ieee.single.signWeight = 2147483648 := single_facts.2.2.2.1
  cases hb : (b / 2147483648 % 2 == 1)
  · left; unfold Ieee.Format.read; rw [e1, hb, h]; rfl
  · right; unfold Ieee.Format.read; rw [e1, hb, h]; rfl
theorem neg_read {b : Nat} (hn : isN .f32 b = false) (h : fle b 0 = true) : Ieee.single.read (Op.negFloat .f32 b) = Ieee.single.read (fab b) ∨ b % 2147483648 = 0 := by
  have hs : (Ieee.single.read b).neg = true ∨ b % 2147483648 = 0 := by
    rcases (fle_zero hn).1 h with ⟨_, hr, _⟩ | ⟨s, m, e, hr, hs⟩
    · left; rw [hr]; rfl
    · rcases hs with rfl | rfl
      · left; rw [hr]; rfl
      · right; exact zero_mag hr
  rcases hs with hs | hs
  · left
    rw [read_sign] at hs
    have hf : (fab b / 2147483648 % 2 == 1) = false := by
      have : fab b / 2147483648 % 2 = 0 := by unfold fab; omega
      rw [this]; rfl
    unfold Ieee.Format.read
    have e1 : Ieee.single.signWeight = 2147483648 := single_facts.2.2.2.1
    have e2 : fab b % 2147483648 = b % 2147483648 := by unfold fab; omega
    rw [e1, neg_sign, hs, hf, neg_low, e2]; rfl
  · exact .inr hs
theorem fgt_low {b : Nat} (h : b % 2147483648 = 0) : fgt b 1073741824 = false := by
  rcases read_low h with h | h
  · rw [fgt_rd h rfl]; kernel_rfl
  · rw [fgt_rd h rfl]; kernel_rfl
theorem fgt_size {b : Nat} (hn : isN .f32 b = false) (hs : fle (fab b) 1073741824 = true) (hz : (FloatKind.f32.format.order b 0 == some .lt) = false) : fgt b 1073741824 = false := by
  cases hl : fle b 0
  · rw [fgt_rd (size_read hn hl) rfl]; exact fgt_of_fle hs
  · have he : FloatKind.f32.format.order b 0 = some .eq := by
      unfold fle at hl; rw [hz] at hl; simpa using hl
    rcases (fle_zero hn).1 hl with ⟨_, hr, _⟩ | ⟨s, m, e, hr, hs⟩
    · unfold Ieee.Format.order at he; simp only [read_f32, read_zero, hr] at he; simp [Ieee.Datum.order] at he
    · by_cases h0 : m = 0
      · subst h0; exact fgt_low (zero_mag hr)
      · rcases hs with rfl | rfl
        · unfold Ieee.Format.order at he; simp only [read_f32, read_zero, hr] at he
          simp only [Ieee.Datum.order, signed_zero] at he
          have := signed_neg h0 (e - min e (-149)).toNat
          have hc : compare (Ieee.signed true m (e - min e (-149)).toNat) 0 = .lt := by rw [Int.compare_eq_lt]; exact this
          simp [hc] at he
        · exact absurd rfl h0
set_option maxRecDepth 100000 in
set_option maxHeartbeats 400000 in
theorem l03Size_any (b : Nat) (h : isN .f32 b = false) (hs : fle (fab b) 1073741824 = true) (w : World) :
    Calls Tryz.prog 53 #[.float .f32 b] w fun e w' => ∃ r, e = .returned (.float .f32 r) ∧ fgt r 1073741824 = false ∧ w' = w := by
  cases hz : (FloatKind.f32.format.order b 0 == some .lt)
  · have HZ := Lib.hid hz
    go_enter Tryz.func53, Tryz.ntmps53
    go_wp2_with fail
    go_ret
    exact ⟨_, rfl, fgt_size h hs HZ.out, rfl⟩
  · have HZ := Lib.hid hz
    go_enter Tryz.func53, Tryz.ntmps53
    go_wp2_with fail
    go_ret
    refine ⟨_, rfl, ?_, rfl⟩
    have hl : fle b 0 = true := by unfold fle; rw [HZ.out]; rfl
    rcases neg_read h hl with hr | hr
    · rw [fgt_rd hr rfl]; exact fgt_of_fle hs
    · exact fgt_low ((neg_low b).trans hr)
end Go.Proofs.YtmmfnklnmdhkiaaGreat
/- What steps of a drawn ground are like: the plain laws behind FnUnsteady. -/
namespace Go.Proofs.YtmmfnklnmdhkiaaGreat
open Go.ChangeShapes Go.WideShapes Go.ChangeAt Go.RowKit
set_option linter.unusedVariables false
set_option linter.unusedSimpArgs false
attribute [local irreducible] Calls
theorem feq_same {a : Nat} (h : isN .f32 a = false) : feq a a = true := by
  unfold feq
  have : FloatKind.f32.format.order a a = some .eq := order_self (k := .f32) h
  rw [this]; rfl
theorem fop_mul_rd {a b b' : Nat} (h : Ieee.single.read b = Ieee.single.read b') : fop .mul a b = fop .mul a b' := by
  have e : floatBits .mul .f32 a b = floatBits .mul .f32 a b' := by
    have h3 : ∀ x, floatBits .mul .f32 a x = Ieee.single.mul a x := fun _ => rfl
    rw [h3, h3]
    unfold Ieee.Format.mul
    rw [h]
  unfold fop; rw [e]
theorem zero_low {b : Nat} (h : feq b 0 = true) : b % 2147483648 = 0 := by
  have hn := feq_num h
  have hl : fle b 0 = true := by unfold fle; unfold feq at h; rw [h]; simp
  unfold feq at h
  have he : FloatKind.f32.format.order b 0 = some .eq := by simpa using h
  rcases (fle_zero hn).1 hl with ⟨_, hr, _⟩ | ⟨s, m, e, hr, hs⟩
  · unfold Ieee.Format.order at he; simp only [read_f32, read_zero, hr] at he; simp [Ieee.Datum.order] at he
  · by_cases h0 : m = 0
    · subst h0; exact zero_mag hr
    · rcases hs with rfl | rfl
      · unfold Ieee.Format.order at he; simp only [read_f32, read_zero, hr] at he
        simp only [Ieee.Datum.order, signed_zero] at he
        have := signed_neg h0 (e - min e (-149)).toNat
        have hc : compare (Ieee.signed true m (e - min e (-149)).toNat) 0 = .lt := by rw [Int.compare_eq_lt]; exact this
        simp [hc] at he
      · exact absurd rfl h0
theorem stay_all : ∀ m x : Nat, m < 65 → x < 32 → feq (fop .add (headOf m) (fop .mul (partOf x) 0)) (headOf m) = true ∧ feq (fop .add (headOf m) (fop .mul (partOf x) 2147483648)) (headOf m) = true := by
  have h : (List.range 65).all (fun (m : Nat) => (List.range 32).all fun (x : Nat) => feq (fop .add (headOf m) (fop .mul (partOf x) 0)) (headOf m) && feq (fop .add (headOf m) (fop .mul (partOf x) 2147483648)) (headOf m)) = true := by kernel_rfl
  intro m x hm hx
  have := List.all_eq_true.1 (List.all_eq_true.1 h m (List.mem_range.2 hm)) x (List.mem_range.2 hx)
  simpa using this
/-- A head stays where a cell is fixed or nothing comes of its balance. -/
theorem head_stays {G : Gr} (h : IsDrawn G) {x : Nat} (hx : x < 32) {i : Nat} (hi : i < 64) (hc : isC G i = true) (h2 : isFx G i = true ∨ feq (bal G i) 0 = true) : feq (stepH G (partOf x) i) (G.hea i) = true := by
  obtain ⟨m, hm, he⟩ := h.hea i hi hc
  unfold stepH
  cases hf : isFx G i
  · have hz := h2.resolve_left (by rw [hf]; simp)
    rw [hc, if_pos (by rfl), he]
    rcases read_low (zero_low hz) with hr | hr
    · rw [fop_mul_rd hr]; exact (stay_all m x hm hx).1
    · rw [fop_mul_rd hr]; exact (stay_all m x hm hx).2
  · rw [hc, if_neg (by simp), he]
    exact feq_same (plain_num (few_all m hm).2.2.2)
theorem stepC_zero {g : Gr} {part : Nat} (h : stepC g part = 0) : stepIs g part = true ∧ balsOk g = true ∧ stepR g part = stepG g part := by
  rcases stepC_cases g part with ⟨h1, h2, h3⟩ | ⟨h1, h2, h3⟩
  · refine ⟨h1, ?_, h3⟩
    unfold stepIs at h1
    exact (Bool.and_eq_true_iff.1 h1).1
  · rw [h2] at h; cases h
theorem runTo_back {g : Gr} {part n : Nat} (h : (runTo g part n).2 = 0) {k : Nat} (hk : k ≤ n) : (runTo g part k).2 = 0 := by
  by_cases h0 : (runTo g part k).2 = 0
  · exact h0
  · rw [runTo_stay h0 n hk] at h; exact absurd h h0
theorem runTo_valid {g : Gr} {part : Nat} (hv : validG g = true) : ∀ k, (runTo g part k).2 = 0 → validG (runTo g part k).1 = true
  | 0, _ => hv
  | k + 1, h => by
    have hk := runTo_back h (k := k) (by omega)
    rw [runTo_go hk] at h ⊢
    obtain ⟨h1, _, h3⟩ := stepC_zero h
    show validG (stepR (runTo g part k).1 part) = true
    rw [h3]
    unfold stepIs at h1
    exact (Bool.and_eq_true_iff.1 h1).2
/-- One more step of the law's own loop. -/
theorem runTo_step {g : Gr} {part n k : Nat} (hv : validG g = true) (hp : plain part = true) (h : (runTo g part n).2 = 0) (hk : k < n) : stepGC (runTo g part k).1 part = 0 ∧ stepGR (runTo g part k).1 part = (runTo g part (k + 1)).1 := by
  have h0 := runTo_back h (k := k) (by omega)
  have h1 := runTo_back h (k := k + 1) (by omega)
  have ha : askOk (runTo g part k).1 part = true := by unfold askOk; rw [runTo_valid hv k h0, hp]; rfl
  have e := runTo_go (g := g) (part := part) h0
  unfold stepGC stepGR
  rw [ha, if_pos rfl, if_pos rfl]
  rw [e] at h1 ⊢
  exact ⟨h1, rfl⟩
theorem until_zero {part small : Nat} : ∀ (l : Nat) (n : Int) (G : Gr), G.ok → validG G = true → (until_ part small l n G).2.2 = 0 → (until_ part small l n G).1.ok ∧ validG (until_ part small l n G).1 = true ∧ balsOk (until_ part small l n G).1 = true ∧ stillG (until_ part small l n G).1 small = true
  | 0, n, G, hg, hv, h => by
    cases hb : balsOk G
    · rw [until_bad hb] at h; cases h
    · cases hs : stillG G small
      · rw [until_end hb hs] at h; cases h
      · rw [until_still hb hs]; exact ⟨hg, hv, hb, hs⟩
  | l + 1, n, G, hg, hv, h => by
    cases hb : balsOk G
    · rw [until_bad hb] at h; cases h
    · cases hs : stillG G small
      · cases h3 : stepIs G part
        · rw [until_fail hb hs h3] at h; cases h
        · rw [until_step hb hs h3] at h ⊢
          exact until_zero l (n + 1) (stepG G part) (stepG_ok part hg) (by unfold stepIs at h3; exact (Bool.and_eq_true_iff.1 h3).2) h
      · rw [until_still hb hs]; exact ⟨hg, hv, hb, hs⟩
theorem untilT_zero {g : Gr} {part small : Nat} {n : Int} (hg : g.ok) (h : (untilT g part small n).2.2 = 0) : (untilT g part small n).1.ok ∧ validG (untilT g part small n).1 = true ∧ balsOk (untilT g part small n).1 = true ∧ stillG (untilT g part small n).1 small = true := by
  unfold untilT at h ⊢
  cases hv : validG g && plain part && plain small
  · rw [hv] at h; cases h
  · rw [hv, if_pos rfl] at h
    rw [if_pos rfl]
    cases hs : isStp n
    · rw [hs] at h; cases h
    · rw [hs, if_pos rfl] at h
      rw [if_pos rfl]
      simp only [Bool.and_eq_true] at hv
      exact until_zero _ _ _ hg hv.1.1 h
theorem untilT_ok {g : Gr} {part small : Nat} {n : Int} (hg : g.ok) (h : (untilT g part small n).2.2 = 0) {i : Nat} (hi : i < 64) (hc : isC (untilT g part small n).1 i = true) (hf : isFx (untilT g part small n).1 i = false) : isN .f32 (bal (untilT g part small n).1 i) = false ∧ fle (fab (bal (untilT g part small n).1 i)) small = true := by
  obtain ⟨h1, h2, h3, h4⟩ := untilT_zero hg h
  refine ⟨bals_num h3 hi hc, ?_⟩
  unfold stillG at h4
  exact List.all_eq_true.1 h4 i (freeL_mem.2 ⟨⟨hi, hc⟩, hf⟩)
/-- The head of a fixed cell is the tide's. -/
theorem tid_fixed {g : Gr} {H part : Nat} (hg : g.ok) (hv : validG g = true) (h : tidC g H part = 0) {i : Nat} (hi : i < 64) (hf : isFx g i = true) : (tidR g H part).hea i = H := by
  obtain ⟨h1, h2, h3⟩ := tidR_zero h
  rw [h3]
  have hc := fx_cell hg hv hi hf
  have hf' : isFx (tidG g H) i = true := by unfold isFx at hf ⊢; exact hf
  show stepH (tidG g H) part i = H
  unfold stepH
  rw [hf', Bool.not_true, Bool.and_false, if_neg (by simp)]
  show tidH g H i = H
  unfold tidH
  rw [hc, hf, decide_eq_true hi]; rfl
theorem tid_plain {g : Gr} {H part r : Nat} (h : tidC g H part = 0) (hr : cn r = H) (hc : cn H = H) : r = H := al_eq (hr.trans hc.symm) (plain_num (tidR_zero h).1)
theorem runC_n {g : Gr} {m a b part n : Nat} (h : runC g m a b part n = 0) : runN g m a b part n = n := by unfold runN; rw [if_pos h]
theorem runC_last {g : Gr} {m a b part n : Nat} (h : runC g m a b part n = 0) (hn : 0 < n) : heaT g m a b part (n - 1) = (runG g m a b part n).hea 0 := by
  unfold heaT runG
  unfold runC at h
  rw [if_pos h, Nat.sub_add_cancel hn]
theorem runN_le (g : Gr) (m a b part n : Nat) : runN g m a b part n ≤ n := by unfold runN; split <;> omega
end Go.Proofs.YtmmfnklnmdhkiaaGreat
