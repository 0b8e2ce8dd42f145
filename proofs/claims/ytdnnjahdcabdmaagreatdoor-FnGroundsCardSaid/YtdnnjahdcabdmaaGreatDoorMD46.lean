import Derived.Test.YtdnnjahdcabdmaaGreatDoorMD10
import Derived.Test.YtdnnjahdcabdmaaGreatDoorMD06
import Derived.Test.YtdnnjahdcabdmaaGreatDoorMD16
import Derived.Test.YtdnnjahdcabdmaaGreatDoorMD03
/- BesideCell, FlowFrom: the walks through the program and the reference. -/
namespace Go.Proofs.YtdnnjahdcabdmaaGreatDoor
open Go.ChangeShapes Go.WideShapes Go.ChangeAt Go.RowKit
set_option linter.unusedVariables false
set_option linter.unusedSimpArgs false
attribute [local irreducible] Calls

theorem isC_cell {c : Nat} (h : c < 64) : (decide ((0 : Int) ≤ (c : Int)) && decide ((c : Int) ≤ 63)) = true := by simp; omega
theorem side_in {s : Nat} (h : s < 4) : (decide ((0 : Int) ≤ (s : Int)) && decide ((s : Int) ≤ 3)) = true := by simp; omega
set_option maxRecDepth 100000 in
set_option maxHeartbeats 400000 in
theorem cellFault_ok (g : Gr) (b c : Nat) (hg : g.ok) (hv : validG g = true) (hc : c < 64) (hcc : isC g c = true) (w : World) (hb : Blk w b g.cells 30) :
    Calls Tryz.prog 135 #[.pointer (some ⟨b, 0, none⟩), .int .i64 c] w fun e w' => e = .returned (.int .i64 0) ∧ Below w.heap.size w w' := by
  have h1 := fun w' => validGround_any g hg w'
  rw [hv] at h1
  have h2 := fun w' => in_any (c : Int) 0 63 w'
  rw [isC_cell hc] at h2
  have h3 := fun w' hb => has_any g b c hg hc w' hb
  rw [hcc] at h3
  have lb := hb.lt
  go_enter Tryz.func135, Tryz.ntmps135
  go_wp2_with (first | (refine wpList_load_blk rfl rfl rfl row66 hb (Gr.size _) ?_) | (go_at_call 32; refine (h1 _).mono ?_; rintro e w1 ⟨rfl, hb1⟩; have hB1 := hb.below hb1 lb) | (go_at_call 88; refine (h2 _).mono ?_; rintro e w' ⟨rfl, hw⟩; rw [hw]; clear hw w') | (go_at_call 60; refine (h3 _ hB1.gat).mono ?_; rintro e w' ⟨rfl, hw⟩; rw [hw]; clear hw w'))
  go_ret
  exact ⟨rfl, hb1⟩
set_option maxRecDepth 100000 in
set_option maxHeartbeats 400000 in
theorem sideFault_ok (g : Gr) (b c s : Nat) (hg : g.ok) (hv : validG g = true) (hc : c < 64) (hcc : isC g c = true) (hs : s < 4) (w : World) (hb : Blk w b g.cells 30) :
    Calls Tryz.prog 94 #[.pointer (some ⟨b, 0, none⟩), .int .i64 c, .int .i64 s] w fun e w' => e = .returned (.int .i64 0) ∧ Below w.heap.size w w' := by
  have h1 := cellFault_ok g b c hg hv hc hcc w hb
  have h2 := fun w' => in_any (s : Int) 0 3 w'
  rw [side_in hs] at h2
  go_enter Tryz.func94, Tryz.ntmps94
  go_wp2_with (first | (go_at_call 135; refine h1.mono ?_; rintro e w1 ⟨rfl, hb1⟩) | (go_at_call 88; refine (h2 _).mono ?_; rintro e w' ⟨rfl, hw⟩; rw [hw]; clear hw w'))
  go_ret
  exact ⟨rfl, hb1⟩
/-- What BesideCell returns at a cell. -/
def besR (g : Gr) (c s : Nat) : Value := if nbr g c s then .tuple #[.int .i64 (nx g c s : Nat), .int .i64 0] else .tuple #[.int .i64 0, .int .i64 6]
set_option maxRecDepth 100000 in
set_option maxHeartbeats 400000 in
theorem besideCell_any (g : Gr) (c s : Nat) (hg : g.ok) (hv : validG g = true) (hc : c < 64) (hcc : isC g c = true) (hs : s < 4) (w : World) :
    Calls Tryz.prog 38 #[.agg g.cells, .int .i64 c, .int .i64 s] w fun e w' => e = .returned (besR g c s) ∧ Below w.heap.size w w' := by
  have hsf := fun w' hb => sideFault_ok g w.heap.size c s hg hv hc hcc hs w' hb
  have hbs := fun w' hb => beside_any g w.heap.size c s hg hc hs w' hb
  have hR0 : nbr g c s = false → besR g c s = .tuple #[.int .i64 0, .int .i64 6] := fun h => by unfold besR; rw [h]; rfl
  have hR1 : nbr g c s = true → besR g c s = .tuple #[.int .i64 (nx g c s : Nat), .int .i64 0] := fun h => by unfold besR; rw [h]; rfl
  have hB := Blk.new w g.cells 30
  have hbel := below1 w (.cells g.cells 30)
  cases hn : nbr g c s
  · have e0 : bes g c s < 0 := by unfold nbr at hn; simpa using hn
    rw [hR0 hn]
    clear hR0 hR1
    generalize bes g c s = z at *
    clear hn
    go_enter Tryz.func38, Tryz.ntmps38
    go_upto_region 1 with (refine wpList_box_as rfl rfl rfl ?_)
    generalize w.alloc (.cells g.cells 30) = W at *
    have lB := hB.lt
    go_wp2_with (first | (go_at_call 94; refine (hsf _ hB).mono ?_; rintro e w1 ⟨rfl, hb1⟩; have hB1 := hB.below hb1 lB) | (go_at_call 95; refine (hbs _ hB1.gat).mono ?_; rintro e w' ⟨rfl, hw⟩; rw [hw]; clear hw w'))
    go_ret2
    exact ⟨rfl, hbel.trans (hb1.mono hbel.size)⟩
  · rw [bes_nx hn] at hbs
    rw [hR1 hn]
    clear hR0 hR1
    have e0 : ¬ ((nx g c s : Nat) : Int) < 0 := by omega
    generalize nx g c s = z at *
    clear hn
    go_enter Tryz.func38, Tryz.ntmps38
    go_upto_region 1 with (refine wpList_box_as rfl rfl rfl ?_)
    generalize w.alloc (.cells g.cells 30) = W at *
    have lB := hB.lt
    go_wp2_with (first | (go_at_call 94; refine (hsf _ hB).mono ?_; rintro e w1 ⟨rfl, hb1⟩; have hB1 := hB.below hb1 lB) | (go_at_call 95; refine (hbs _ hB1.gat).mono ?_; rintro e w' ⟨rfl, hw⟩; rw [hw]; clear hw w'))
    go_ret2
    exact ⟨rfl, hbel.trans (hb1.mono hbel.size)⟩
set_option maxRecDepth 100000 in
set_option maxHeartbeats 400000 in
theorem told_fin (a : Nat) (h : fin a = true) (w : World) :
    Calls Tryz.prog 96 #[.float .f32 a] w fun e w' => e = .returned (.tuple #[.float .f32 a, .int .i64 0]) ∧ ∃ n, w' = w.drewN n := by
  have hf := fun w' => finite_any a w'
  rw [h] at hf
  go_enter Tryz.func96, Tryz.ntmps96
  go_wp2_with (go_at_call 136; refine (hf _).mono ?_; rintro e w1 ⟨rfl, n, rfl⟩)
  go_ret2
  exact ⟨rfl, n, rfl⟩
set_option maxRecDepth 100000 in
set_option maxHeartbeats 400000 in
theorem flow_none (g : Gr) (b : Nat) (c s : Nat) (hg : g.ok) (hc : c < 64) (hs : s < 4) (hn : nbr g c s = false) (w : World) (hb : GAt w b g) :
    Calls Tryz.prog 97 #[.pointer (some ⟨b, 0, none⟩), .int .i64 c, .int .i64 s] w fun e w' => e = .returned (.float .f32 0) ∧ w' = w := by
  have hbs := beside_any g b c s hg hc hs w hb
  have e0 : bes g c s < 0 := by unfold nbr at hn; simpa using hn
  generalize bes g c s = z at *
  clear hn
  go_enter Tryz.func97, Tryz.ntmps97
  go_wp2_with (go_at_call 95; refine hbs.mono ?_; rintro e w' ⟨rfl, hw⟩; rw [hw]; clear hw w')
  go_ret
  exact ⟨rfl, rfl⟩
/-- What flows from a cell on a side; nothing where there is none. -/
def flwS (g : Gr) (c s : Nat) : Nat := if nbr g c s then flw g c s else 0
theorem flow_both (g : Gr) (b : Nat) (c s : Nat) (hg : g.ok) (hsm : g.small) (hc : c < 64) (hs : s < 4) (hN : isN .f32 (flwS g c s) = false) (w : World) (hb : GAt w b g) :
    Calls Tryz.prog 97 #[.pointer (some ⟨b, 0, none⟩), .int .i64 c, .int .i64 s] w fun e w' => e = .returned (.float .f32 (flwS g c s)) ∧ ∃ n, w' = w.drewN n := by
  unfold flwS at hN ⊢
  cases hn : nbr g c s
  · exact (flow_none g b c s hg hc hs hn w hb).mono fun e w' h => ⟨h.1, 0, h.2⟩
  · rw [hn] at hN
    refine (flow_any g b c s hg hsm hc hs hn w hb).mono ?_
    rintro e w' ⟨r, rfl, hr, n, rfl⟩
    exact ⟨by rw [al_eq hr hN]; rfl, n, rfl⟩
set_option maxRecDepth 100000 in
set_option maxHeartbeats 400000 in
theorem flowFrom_any (g : Gr) (c s : Nat) (hg : g.ok) (hsm : g.small) (hv : validG g = true) (hc : c < 64) (hcc : isC g c = true) (hs : s < 4) (hN : isN .f32 (flwS g c s) = false) (hF : fin (flwS g c s) = true) (w : World) :
    Calls Tryz.prog 39 #[.agg g.cells, .int .i64 c, .int .i64 s] w fun e w' => e = .returned (.tuple #[.float .f32 (flwS g c s), .int .i64 0]) ∧ Below w.heap.size w w' := by
  have hsf := fun w' hb => sideFault_ok g w.heap.size c s hg hv hc hcc hs w' hb
  have hfl := fun w' hb => flow_both g w.heap.size c s hg hsm hc hs hN w' hb
  have htd := fun w' => told_fin (flwS g c s) hF w'
  generalize flwS g c s = z at *
  go_enter Tryz.func39, Tryz.ntmps39
  go_upto_region 1 with (refine wpList_box_as rfl rfl rfl ?_)
  have hB := Blk.new w g.cells 30
  have hbel := below1 w (.cells g.cells 30)
  generalize w.alloc (.cells g.cells 30) = W at *
  have lB := hB.lt
  go_wp2_with (first | (go_at_call 94; refine (hsf _ hB).mono ?_; rintro e w1 ⟨rfl, hb1⟩; have hB1 := hB.below hb1 lB) | (go_at_call 97; refine (hfl _ hB1.gat).mono ?_; rintro e w2 ⟨rfl, n, rfl⟩) | (go_at_call 96; refine (htd _).mono ?_; rintro e w3 ⟨rfl, m, rfl⟩))
  go_ret2
  exact ⟨rfl, below_drewN (hbel.trans (hb1.mono hbel.size)) _⟩
set_option maxRecDepth 100000 in
set_option maxHeartbeats 400000 in
theorem l01Flow_none (g : Gr) (b : Nat) (c s : Nat) (hg : g.ok) (hsm : g.small) (hc : c < 64) (hs : s < 4) (hn : nbr g c s = false) (w : World) (hb : GAt w b g) :
    Calls Tryz.prog 99 #[.pointer (some ⟨b, 0, none⟩), .int .i64 c, .int .i64 s] w fun e w' => e = .returned (.float .f32 0) ∧ w' = w := by
  have hbs := between_no g b c s hg hsm hc hs hn w hb
  clear hn
  go_enter Tryz.func99, Tryz.ntmps99
  go_wp2_with (go_at_call 138; refine hbs.mono ?_; rintro e w' ⟨rfl, hw⟩; rw [hw]; clear hw w')
  go_ret
  exact ⟨rfl, rfl⟩
theorem l01Flow_both (g : Gr) (b : Nat) (c s : Nat) (hg : g.ok) (hsm : g.small) (hc : c < 64) (hs : s < 4) (hN : isN .f32 (flwS g c s) = false) (w : World) (hb : GAt w b g) :
    Calls Tryz.prog 99 #[.pointer (some ⟨b, 0, none⟩), .int .i64 c, .int .i64 s] w fun e w' => e = .returned (.float .f32 (flwS g c s)) ∧ ∃ n, w' = w.drewN n := by
  unfold flwS at hN ⊢
  cases hn : nbr g c s
  · exact (l01Flow_none g b c s hg hsm hc hs hn w hb).mono fun e w' h => ⟨h.1, 0, h.2⟩
  · rw [hn] at hN
    refine (l01Flow_any g b c s hg hsm hc hs hn w hb).mono ?_
    rintro e w' ⟨r, rfl, hr, n, rfl⟩
    exact ⟨by rw [al_eq hr hN]; rfl, n, rfl⟩
set_option maxRecDepth 100000 in
set_option maxHeartbeats 400000 in
theorem l01Asked_ok (g : Gr) (b c : Nat) (hg : g.ok) (hv : validG g = true) (hc : c < 64) (hcc : isC g c = true) (w : World) (hb : GAt w b g) :
    Calls Tryz.prog 137 #[.pointer (some ⟨b, 0, none⟩), .int .i64 c] w fun e w' => e = .returned (.int .i64 0) ∧ ∃ n, w' = w.drewN n := by
  have h1 := l01Ok_any g b hg w hb
  rw [hv] at h1
  have h3 := fun n => l01Is_any g b c hg hc (w.drewN n) (hb.drewN n)
  rw [hcc] at h3
  go_enter Tryz.func137, Tryz.ntmps137
  go_wp2_with (first | (go_at_call 78; refine h1.mono ?_; rintro e w1 ⟨rfl, n, rfl⟩) | (go_at_call 79; refine (h3 n).mono ?_; rintro e w' ⟨rfl, hw⟩; rw [hw]; clear hw w'))
  go_ret
  exact ⟨rfl, n, rfl⟩
set_option maxRecDepth 100000 in
set_option maxHeartbeats 400000 in
theorem l01Sided_ok (g : Gr) (b c s : Nat) (hg : g.ok) (hv : validG g = true) (hc : c < 64) (hcc : isC g c = true) (hs : s < 4) (w : World) (hb : GAt w b g) :
    Calls Tryz.prog 98 #[.pointer (some ⟨b, 0, none⟩), .int .i64 c, .int .i64 s] w fun e w' => e = .returned (.int .i64 0) ∧ ∃ n, w' = w.drewN n := by
  have h1 := l01Asked_ok g b c hg hv hc hcc w hb
  have h2 := fun w' => l00In_any (s : Int) 0 3 w'
  rw [side_in hs] at h2
  go_enter Tryz.func98, Tryz.ntmps98
  go_wp2_with (first | (go_at_call 137; refine h1.mono ?_; rintro e w1 ⟨rfl, n, rfl⟩) | (go_at_call 123; refine (h2 _).mono ?_; rintro e w' ⟨rfl, hw⟩; rw [hw]; clear hw w'))
  go_ret
  exact ⟨rfl, n, rfl⟩
set_option maxRecDepth 100000 in
set_option maxHeartbeats 400000 in
theorem specFlowFrom_any (g : Gr) (c s : Nat) (hg : g.ok) (hsm : g.small) (hv : validG g = true) (hc : c < 64) (hcc : isC g c = true) (hs : s < 4) (hN : isN .f32 (flwS g c s) = false) (hF : fin (flwS g c s) = true) (w : World) :
    Calls Tryz.prog 40 #[.agg g.cells, .int .i64 c, .int .i64 s] w fun e w' => e = .returned (.tuple #[.float .f32 (flwS g c s), .int .i64 0]) ∧ Below w.heap.size w w' := by
  have hsf := fun w' hb => l01Sided_ok g w.heap.size c s hg hv hc hcc hs w' hb
  have hfl := fun w' hb => l01Flow_both g w.heap.size c s hg hsm hc hs hN w' hb
  have hfi := fun w' => l01Finite_any (flwS g c s) w'
  rw [hF] at hfi
  generalize flwS g c s = z at *
  go_enter Tryz.func40, Tryz.ntmps40
  go_upto_region 1 with (refine wpList_box_as rfl rfl rfl ?_)
  have hB := Blk.new w g.cells 30
  have hbel := below1 w (.cells g.cells 30)
  generalize w.alloc (.cells g.cells 30) = W at *
  go_wp2_with (first | (go_at_call 98; refine (hsf _ hB.gat).mono ?_; rintro e w1 ⟨rfl, n1, rfl⟩; have hB1 := hB.drewN n1) | (go_at_call 99; refine (hfl _ hB1.gat).mono ?_; rintro e w2 ⟨rfl, n, rfl⟩) | (go_at_call 100; refine (hfi _).mono ?_; rintro e w3 ⟨rfl, m, rfl⟩))
  go_ret2
  exact ⟨rfl, below_drewN hbel _⟩
end Go.Proofs.YtdnnjahdcabdmaaGreatDoor
/- HeadsBetween: the walk through the program; heads that are drawn are ordered. -/
namespace Go.Proofs.YtdnnjahdcabdmaaGreatDoor
open Go.ChangeShapes Go.WideShapes Go.ChangeAt Go.RowKit
set_option linter.unusedVariables false
set_option linter.unusedSimpArgs false
attribute [local irreducible] Calls

def headChk (m : Nat) : Bool := match Ieee.single.read (headOf m) with
  | .number false a e => decide (-149 ≤ e) && (a * 2 ^ (e + 149).toNat == (m + 8) * 2 ^ 147)
  | _ => false
theorem head_chk : ∀ m : Nat, m < 65 → headChk m = true := by decide +kernel
theorem head_val {m : Nat} (h : m < 65) : Val Ieee.single (headOf m) (sg false ((m + 8) * 2 ^ 147)) := by
  have hc := head_chk m h
  unfold headChk at hc
  cases hr : Ieee.single.read (headOf m) with
  | nan s f => rw [hr] at hc; cases hc
  | infinity s => rw [hr] at hc; cases hc
  | number s a e =>
    rw [hr] at hc
    cases s
    · simp only [Bool.and_eq_true, decide_eq_true_eq, beq_iff_eq] at hc
      obtain ⟨k, hk⟩ : ∃ k : Nat, e = -149 + (k : Int) := ⟨(e + 149).toNat, by omega⟩
      subst hk
      rw [show (-149 + (k : Int) + 149).toNat = k by omega] at hc
      rw [← hc.2]
      exact val_num hr
    · cases hc
theorem head_order {m n : Nat} (hm : m < 65) (hn : n < 65) : Ieee.single.order (headOf m) (headOf n) = some (compare (m : Int) (n : Int)) := by
  rw [order_val (head_val hm) (head_val hn)]
  congr 1
  show compare (((m + 8) * 2 ^ 147 : Nat) : Int) (((n + 8) * 2 ^ 147 : Nat) : Int) = _
  rw [Int.natCast_mul, Int.natCast_mul, compare_scale _ _ _ (Nat.two_pow_pos _), cmp_int, cmp_int]
  simp only [Int.natCast_add]
  by_cases h1 : (m : Int) < n
  · rw [if_pos (by omega), if_pos h1]
  · rw [if_neg (by omega), if_neg h1]
    by_cases h2 : (m : Int) = n
    · rw [if_pos (by omega), if_pos h2]
    · rw [if_neg (by omega), if_neg h2]
theorem flt_head {m n : Nat} (hm : m < 65) (hn : n < 65) : flt (headOf m) (headOf n) = decide (m < n) := by
  unfold flt
  rw [show FloatKind.f32.format.order (headOf m) (headOf n) = Ieee.single.order (headOf m) (headOf n) from rfl, head_order hm hn, cmp_int]
  by_cases h1 : (m : Int) < n
  · rw [if_pos h1, decide_eq_true (by omega)]; rfl
  · rw [if_neg h1, decide_eq_false (by omega)]
    split <;> rfl
theorem fgt_head {m n : Nat} (hm : m < 65) (hn : n < 65) : fgt (headOf m) (headOf n) = decide (n < m) := by
  unfold fgt
  rw [show FloatKind.f32.format.order (headOf m) (headOf n) = Ieee.single.order (headOf m) (headOf n) from rfl, head_order hm hn, cmp_int]
  by_cases h1 : (m : Int) < n
  · rw [if_pos h1, decide_eq_false (by omega)]; rfl
  · rw [if_neg h1]
    by_cases h2 : (m : Int) = n
    · rw [if_pos h2, decide_eq_false (by omega)]; rfl
    · rw [if_neg h2, decide_eq_true (by omega)]; rfl
theorem elFlH : ElemTy Tryz.prog 42 25 1 4 := elem_of (z := .float .f32 0) Tryz.underlying42 (by kernel_rfl) rfl
/-- Numbers of a field in a list. -/
@[irreducible] def atL (f : Nat → Nat) (L : List Nat) : List Value := L.map fun k => .float .f32 (f k)
theorem atL_nil (f : Nat → Nat) : atL f [] = [] := by simp [atL]
theorem atL_snoc (f : Nat → Nat) (L : List Nat) (k : Nat) : atL f (L ++ [k]) = atL f L ++ [.float .f32 (f k)] := by simp [atL]
theorem atL_get (f : Nat → Nat) (L : List Nat) (i k : Nat) (h : L[i]? = some k) : (atL f L)[i]? = some (.float .f32 (f k)) := by simp [atL, h]
set_option maxRecDepth 100000 in
set_option maxHeartbeats 1000000 in
theorem at_any (r b o capr : Nat) (L : List Nat) (hL : ∀ k, k ∈ L → k < 64) (hlen : L.length ≤ 64) (f : Nat → Nat) (w : World) (hO : Own w r 3 1 (.slice (some ⟨r, 0, none⟩) L.length capr) L.length (ils L)) (lb : b < w.heap.size) (hf : ∀ k, k < 64 → w.cell? ⟨b, o + k, none⟩ = some (.float .f32 (f k))) :
    Calls Tryz.prog 93 #[.slice (some ⟨r, 0, none⟩) L.length capr, .pointer (some ⟨b, o, none⟩)] w fun e w' => ∃ v g, e = .returned v ∧ w.heap.size ≤ g ∧ Own w' g 25 1 v L.length (atL f L) ∧ Below w.heap.size w w' := by
  have HF := Lib.hid hf
  have HL := Lib.hid hL
  have HO := Lib.hid hO
  have lr := hO.lt
  clear hf hL hO
  go_enter Tryz.func93, Tryz.ntmps93
  go_upto_region 2 with fail
  have hB : Own (w.alloc (.cells #[] 25)) w.heap.size 25 1 (.slice (some ⟨w.heap.size, 0, none⟩) 0 0) 0 (atL f (L.take 0)) := by rw [List.take_zero, atL_nil]; exact own_blk (Blk.new _ _ _) rfl (by decide) rfl
  have hbel := below1 w (.cells #[] 25)
  generalize w.alloc (.cells #[] 25) = W at *
  go_wp2_with fail
  go_loopw [5, 11] (fun y i wr => ∃ (j g : Nat), j ≤ L.length ∧ i = .int .i64 j ∧ Own wr g 25 1 y j (atL f (L.take j)) ∧ w.heap.size ≤ g ∧ Below w.heap.size w wr) (fun _ i _ => L.length - (intOf i).toNat)
  case atStart => exact ⟨0, _, by omega, rfl, hB, Nat.le_refl _, hbel⟩
  case round =>
    clear hB hbel
    obtain ⟨j, g, hj, rfl, hB, hg, hbel⟩ := hrel
    have bj : (0 : Int) ≤ j := by omega
    by_cases hlt : j < L.length
    · have bl : (j : Int) < L.length := by omega
      obtain ⟨k, hk⟩ : ∃ k, L[j]? = some k := ⟨_, List.getElem?_eq_getElem hlt⟩
      have hk64 := HL.out k (List.mem_of_getElem? hk)
      have e0 := (hbel.cell (p := ⟨r, j, none⟩) lr).trans ((HO.out.cell j (by omega)).trans (ils_get L j k hk))
      have e1 := (hbel.cell (p := ⟨b, o + k, none⟩) lb).trans (HF.out k hk64)
      have bk : (0 : Int) ≤ k := by omega
      have bk2 : (k : Int) < 64 := by omega
      obtain ⟨cy, rfl, hy1, hy2⟩ := hB.form
      unfold maxLen at hy2
      have HSN : Hid (atL f (L.take (j + 1)) = atL f (L.take j) ++ [.float .f32 (f k)]) := Lib.hid (by rw [List.take_add_one, hk, show (some k).toList = [k] from rfl, atL_snoc])
      clear hk
      generalize f k = z at *
      go_wp2_with (at_builtin; refine wpList_app elFlH rfl rfl rfl rfl (by decide) (hB.alloc _) (Blk.new _ _ _) rfl ?_ ?_ ?_ ?_; (· intro u hu; simp at hu; rcases hu with rfl; rfl); (· unfold maxLen; omega); (· omega); intro v1 w3 g1 hown hgr hg1)
      have hb3 := (hbel.alloc hbel.size (.cells #[.float .f32 z] 25)).grown hgr (by have := hbel.size; simp; omega) (fun q hq => by injection hq with hq; omega)
      have hsz := hbel.size
      go_roundw
      case rel =>
        refine ⟨j + 1, g1, by omega, by go_num, ?_, ?_, hb3⟩
        · rw [HSN.out]; exact hown
        · rcases hg1 with h | h
          · omega
          · rw [h]; simp; omega
      case measure => simp [intOf]; omega
    · obtain rfl : j = L.length := by omega
      rw [List.take_length] at hB
      go_wp2_with fail
      go_ret
      exact ⟨_, g, rfl, hg, hB, hbel⟩
theorem cellsTo_memH {g : Gr} {k : Nat} (h : k < 64) (hc : isC g k = true) : k ∈ cellsTo g 64 := by unfold cellsTo; rw [List.mem_filter, List.mem_range]; exact ⟨h, hc⟩
def Hd (x : Nat) : Prop := ∃ m, m < 65 ∧ x = headOf m
theorem Hd.low {h lo x : Nat} (hh : Hd h) (hl : Hd lo) (hx : Hd x) (h1 : flt x lo = true) (h2 : flt h lo = false) : flt h x = false := by
  obtain ⟨a, ha, rfl⟩ := hh
  obtain ⟨b, hb, rfl⟩ := hl
  obtain ⟨c, hc, rfl⟩ := hx
  rw [flt_head hc hb] at h1
  rw [flt_head ha hb] at h2
  rw [flt_head ha hc]
  simp at *; omega
theorem Hd.high {h lo x : Nat} (hh : Hd h) (hl : Hd lo) (hx : Hd x) (h1 : fgt x lo = true) (h2 : fgt h lo = false) : fgt h x = false := by
  obtain ⟨a, ha, rfl⟩ := hh
  obtain ⟨b, hb, rfl⟩ := hl
  obtain ⟨c, hc, rfl⟩ := hx
  rw [fgt_head hc hb] at h1
  rw [fgt_head ha hb] at h2
  rw [fgt_head ha hc]
  simp at *; omega
theorem Hd.self {x : Nat} (hx : Hd x) : flt x x = false ∧ fgt x x = false := by
  obtain ⟨c, hc, rfl⟩ := hx
  rw [flt_head hc hc, fgt_head hc hc]; simp
set_option maxRecDepth 100000 in
set_option maxHeartbeats 4000000 in
theorem headsBetween_any (g : Gr) (hd : IsDrawn g) (w : World) :
    Calls Tryz.prog 36 #[.agg g.cells] w fun e w' => ∃ a b, e = .returned (.tuple #[.float .f32 a, .float .f32 b, .int .i64 0]) ∧ (∀ k, k < 64 → isC g k = true → flt (g.hea k) a = false ∧ fgt (g.hea k) b = false) ∧ Below w.heap.size w w' := by
  have hvg := fun w' => validGround_any g hd.ok w'
  rw [hd.valid] at hvg
  have hB := Blk.new w g.cells 30
  have hbel := below1 w (.cells g.cells 30)
  have hp := validG_parts hd.valid
  have h0 : isC g 0 = true := by unfold isC; simp; omega
  have hH0 : Hd (g.hea 0) := hd.hea 0 (by omega) h0
  have HH := Lib.hid fun k hk (hc : isC g k = true) => show Hd (g.hea k) from hd.hea k hk hc
  have hok := hd.ok
  clear hp hd
  go_enter Tryz.func36, Tryz.ntmps36
  go_upto_region 1 with (refine wpList_box_as rfl rfl rfl ?_)
  generalize w.alloc (.cells g.cells 30) = W at *
  have lB := hB.lt
  go_upto_region 3 with (first | (refine wpList_load_blk rfl rfl rfl row66 hB (Gr.size _) ?_) | (go_at_call 32; refine (hvg _).mono ?_; rintro e w1 ⟨rfl, hb1⟩))
  have hB1 := hB.below hb1 lB
  have hbel1 := hbel.trans (hb1.mono hbel.size)
  have c0 := hB1.gat.getH 0 (by omega)
  clear hb1 hvg hbel hB
  go_region
  have hB2 := hB1.drew
  have hbel2 : Below w.heap.size w w1.drew := hbel1.drew
  clear c0 hbel1
  generalize w1.drew = w2 at *
  have hcl := cells_any g w.heap.size hok w2 hB2.gat
  have lB2 := hB2.lt
  have hlen := cellsTo_length g 64
  have hmem : ∀ k, k ∈ cellsTo g 64 → k < 64 := fun k hk => (cellsTo_lt hk).1
  go_upto_region 5 with (first | (go_at_call 73; refine hcl.mono ?_; rintro e w3 ⟨r, cap, rfl, hr, hO, hb3⟩; have hB3 := hB2.below hb3 lB2; have hat := at_any r w.heap.size 130 cap (cellsTo g 64) hmem hlen g.hea w3 hO hB3.lt (fun k hk => hB3.gat.getH k hk)) | (go_at_call 93; refine hat.mono ?_; rintro e w4 ⟨v, q, rfl, hq, hOf, hb4⟩; obtain ⟨cv, rfl, hcv1, hcv2⟩ := hOf.form))
  have hbel4 := (hbel2.trans (hb3.mono hbel2.size)).trans (hb4.mono (Nat.le_trans hbel2.size hb3.size))
  clear hcl hat hb3 hb4 hO hr hB2 hB3 hq hbel2
  unfold maxLen at hcv2
  have HOF := Lib.hid hOf
  have lq := hOf.lt
  clear hOf
  go_loopw [5, 6, 22] (fun x y i wr => ∃ (j a b : Nat), j ≤ (cellsTo g 64).length ∧ i = .int .i64 j ∧ x = .float .f32 a ∧ y = .float .f32 b ∧ Hd a ∧ Hd b ∧ Hid (∀ k, k ∈ (cellsTo g 64).take j → flt (g.hea k) a = false ∧ fgt (g.hea k) b = false) ∧ wr = w4) (fun _ _ i _ => (cellsTo g 64).length - (intOf i).toNat)
  case atStart => exact ⟨0, _, _, by omega, rfl, rfl, rfl, hH0, hH0, Lib.hid (fun k hk => by rw [List.take_zero] at hk; cases hk), rfl⟩
  case round =>
    obtain ⟨j, a, b, hj, rfl, rfl, rfl, ha, hb, hall, rfl⟩ := hrel
    have bj : (0 : Int) ≤ j := by omega
    by_cases hlt : j < (cellsTo g 64).length
    · have bl : (j : Int) < (cellsTo g 64).length := by omega
      obtain ⟨k, hk⟩ : ∃ k, (cellsTo g 64)[j]? = some k := ⟨_, List.getElem?_eq_getElem hlt⟩
      have hkm := cellsTo_lt (List.mem_of_getElem? hk)
      have hx : Hd (g.hea k) := HH.out k hkm.1 hkm.2
      have e0 := (HOF.out.cell j (by omega)).trans (atL_get g.hea _ j k hk)
      have HTK : Hid (∀ a' b', (∀ i, i ∈ (cellsTo g 64).take j → flt (g.hea i) a' = false ∧ fgt (g.hea i) b' = false) → flt (g.hea k) a' = false → fgt (g.hea k) b' = false → ∀ i, i ∈ (cellsTo g 64).take (j + 1) → flt (g.hea i) a' = false ∧ fgt (g.hea i) b' = false) := Lib.hid fun a' b' h1 h2 h3 i hi => by
        rw [List.take_add_one, hk] at hi
        rcases List.mem_append.1 hi with hi | hi
        · exact h1 i hi
        · obtain rfl : i = k := by simpa using hi
          exact ⟨h2, h3⟩
      have HHM : Hid (∀ i, i ∈ (cellsTo g 64).take j → Hd (g.hea i)) := Lib.hid fun i hi => HH.out i (cellsTo_lt (List.mem_of_mem_take hi)).1 (cellsTo_lt (List.mem_of_mem_take hi)).2
      clear hk hkm
      have HX := Lib.hid hx
      have HA := Lib.hid ha
      have HB := Lib.hid hb
      generalize g.hea k = x at *
      have o1 := flt_eq x a
      have o2 := fgt_eq x b
      cases h1 : flt x a <;> rw [h1] at o1 <;> cases h2 : fgt x b <;> rw [h2] at o2
      · have HN := Lib.hid (HTK.out a b hall.out h1 h2)
        clear h1 h2
        go_wp2_with fail
        go_roundw
        case rel => exact ⟨j + 1, a, b, by omega, by go_num, rfl, rfl, HA.out, HB.out, HN, by first | rfl | trivial⟩
        case measure => simp [intOf]; omega
      · have HN := Lib.hid (HTK.out a x (fun i hi => ⟨(hall.out i hi).1, Hd.high (HHM.out i hi) HB.out HX.out h2 (hall.out i hi).2⟩) h1 HX.out.self.2)
        clear h1 h2
        go_wp2_with fail
        go_roundw
        case rel => exact ⟨j + 1, a, x, by omega, by go_num, rfl, rfl, HA.out, HX.out, HN, by first | rfl | trivial⟩
        case measure => simp [intOf]; omega
      · have HN := Lib.hid (HTK.out x b (fun i hi => ⟨Hd.low (HHM.out i hi) HA.out HX.out h1 (hall.out i hi).1, (hall.out i hi).2⟩) HX.out.self.1 h2)
        clear h1 h2
        go_wp2_with fail
        go_roundw
        case rel => exact ⟨j + 1, x, b, by omega, by go_num, rfl, rfl, HX.out, HB.out, HN, by first | rfl | trivial⟩
        case measure => simp [intOf]; omega
      · have HN := Lib.hid (HTK.out x x (fun i hi => ⟨Hd.low (HHM.out i hi) HA.out HX.out h1 (hall.out i hi).1, Hd.high (HHM.out i hi) HB.out HX.out h2 (hall.out i hi).2⟩) HX.out.self.1 HX.out.self.2)
        clear h1 h2
        go_wp2_with fail
        go_roundw
        case rel => exact ⟨j + 1, x, x, by omega, by go_num, rfl, rfl, HX.out, HX.out, HN, by first | rfl | trivial⟩
        case measure => simp [intOf]; omega
    · obtain rfl : j = (cellsTo g 64).length := by omega
      rw [List.take_length] at hall
      go_wp2_with fail
      go_ret3
      exact ⟨a, b, rfl, fun k hk hc => hall.out k (cellsTo_memH hk hc), hbel4⟩
end Go.Proofs.YtdnnjahdcabdmaaGreatDoor
