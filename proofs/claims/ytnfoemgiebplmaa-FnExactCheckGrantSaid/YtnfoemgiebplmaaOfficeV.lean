/- ValidOffice, in the program and in the reference. -/
import Derived.Test.YtnfoemgiebplmaaOffice
import Derived.IntWalk
namespace Go.Proofs.Ytnfoemgiebplmaa
open Go.ChangeShapes Go.WideShapes Go.ChangeAt Go.RowKit
set_option linter.unusedVariables false
set_option linter.unusedSimpArgs false
attribute [local irreducible] Calls

/-- Is the number k a cell? -/
def isCI (g : Gr) (k : Int) : Bool := (decide (0 ≤ k) && decide (k ≤ 63)) && isC g k.toNat
def badW (g : Gr) (p : Wt) : Bool := !isCI g p.cel || !plain p.lim
def validO (g : Gr) (n : Nat) (P : Nat → Wt) : Bool := validG g && (decide (n ≤ 6) && !anyTo (badW g) P n)

set_option maxRecDepth 100000 in
set_option maxHeartbeats 400000 in
theorem l01Is_int (g : Gr) (b : Nat) (k : Int) (hg : g.ok) (hk : -9223372036854775808 ≤ k ∧ k ≤ 9223372036854775807) (w : World) (hb : GAt w b g) :
    Calls Try.prog 76 #[.pointer (some ⟨b, 0, none⟩), .int .i64 k] w fun e w' => e = .returned (.bool (isCI g k)) ∧ w' = w := by
  by_cases hin : 0 ≤ k ∧ k ≤ 63
  · obtain ⟨j, rfl⟩ : ∃ j : Nat, k = j := ⟨k.toNat, by omega⟩
    have := l01Is_any g b j hg (by omega) w hb
    rw [show isCI g (j : Int) = isC g j from by unfold isCI; simp; omega]
    exact this
  · have hd : (decide (0 ≤ k) && decide (k ≤ 63)) = false := by simp; omega
    have hi := l00In_any k 0 63 w
    rw [hd] at hi
    unfold isCI
    rw [hd]
    go_enter Try.func76, Try.ntmps76
    go_wp2_with (go_at_call 109; refine hi.mono ?_; rintro e w' ⟨rfl, hw⟩; rw [hw]; clear hw w')
    go_ret
    exact ⟨rfl, rfl⟩

set_option maxRecDepth 100000 in
set_option maxHeartbeats 400000 in
theorem validW_any (g : Gr) (b : Nat) (p : Wt) (hg : g.ok) (hp : p.ok) (w : World) (hb : GAt w b g) :
    Calls Try.prog 150 #[.agg p.cells, .pointer (some ⟨b, 0, none⟩)] w fun e w' => e = .returned (.bool (badW g p)) ∧ Below w.heap.size w w' := by
  obtain ⟨p1, p2⟩ := hp
  have hbel := below1 w (.cells #[.int .i8 p.cel, .float .f32 p.lim] 125)
  have hpl := fun w' => isPlain_any p.lim w'
  unfold badW
  rw [p.cells_eq]
  by_cases h0 : p.cel < 0
  · have hd : decide (p.cel < 0) = true := by simp; omega
    rw [show isCI g p.cel = false from by unfold isCI; simp; omega]
    go_enter Try.func150, Try.ntmps150
    go_wp2_with fail
    go_ret
    exact ⟨rfl, hbel⟩
  · have hd : decide (p.cel < 0) = false := by simp; omega
    by_cases h1 : 64 ≤ p.cel
    · have hd2 : decide (64 ≤ p.cel) = true := by simp; omega
      rw [show isCI g p.cel = false from by unfold isCI; simp; omega]
      go_enter Try.func150, Try.ntmps150
      go_wp2_with fail
      go_ret
      exact ⟨rfl, hbel⟩
    · have hd2 : decide (64 ≤ p.cel) = false := by simp; omega
      obtain ⟨j, hj⟩ : ∃ j : Nat, p.cel = j := ⟨p.cel.toNat, by omega⟩
      have hhas := has_any g b j hg (by omega) _ (hb.alloc (.cells #[.int .i8 p.cel, .float .f32 p.lim] 125))
      rw [show isCI g p.cel = isC g j from by unfold isCI; rw [hj]; simp; omega]
      rw [← hj] at hhas
      clear hj
      cases hc : isC g j <;> rw [hc] at hhas
      · go_enter Try.func150, Try.ntmps150
        go_wp2_with (go_at_call 119; refine hhas.mono ?_; rintro e w' ⟨rfl, hw⟩; rw [hw]; clear hw w')
        go_ret
        exact ⟨rfl, hbel⟩
      · go_enter Try.func150, Try.ntmps150
        go_wp2_with (first | (go_at_call 119; refine hhas.mono ?_; rintro e w' ⟨rfl, hw⟩; rw [hw]; clear hw w') | (go_at_call 65; refine (hpl _).mono ?_; rintro e w' ⟨rfl, hw⟩; rw [hw]; clear hw w'))
        go_ret
        exact ⟨bool_eq (by simp), hbel⟩
theorem callWatch : Callable Try.prog 150 := ⟨_, Try.func150, by kernel_rfl, by kernel_rfl⟩

set_option maxRecDepth 100000 in
set_option maxHeartbeats 400000 in
theorem validOffice_any (g : Gr) (v : Value) (n : Nat) (P : Nat → Wt) (hg : g.ok) (hP : ∀ i, i < n → (P i).ok) (w : World) (hv : WSl w v n P) :
    Calls Try.prog 129 #[.agg (ofc g v)] w fun e w' => e = .returned (.bool (validO g n P)) ∧ Below w.heap.size w w' := by
  obtain ⟨a, c, rfl, hc1, hc2, hform⟩ := id hv
  unfold maxLen at hc2
  clear hform
  obtain ⟨V, hV⟩ : ∃ V, V = validO g n P := ⟨_, rfl⟩
  rw [← hV]
  unfold validO at hV
  go_enter Try.func129, Try.ntmps129
  go_upto_region 1 with (refine wpList_box_as rfl rfl rfl ?_)
  have hA : Blk (w.alloc (.cells (ofc g (.slice a n c)) 56)) w.heap.size (ofc g (.slice a n c)) 56 := Blk.new _ _ _
  have hbel := below1 w (.cells (ofc g (.slice a n c)) 56)
  generalize w.alloc (.cells (ofc g (.slice a n c)) 56) = W at *
  have lA := hA.lt
  have cS : W.cell? ⟨w.heap.size, 195, none⟩ = some (.slice a n c) := (hA.cell _).trans (ofc_last _ _)
  have hcon := containsWt_any (badW g) 150 #[.pointer (some ⟨w.heap.size, 0, none⟩)] n P _ W (hv.below hbel) callWatch (fun i w' hi hb => validW_any g w.heap.size (P i) hg (hP i hi) w' (hA.ogat.below hb lA))
  generalize anyTo (badW g) P n = q3 at *
  go_upto_region 2 with (go_at_call 149; refine hcon.mono ?_; rintro e w1 ⟨rfl, hb1⟩)
  have hA1 := hA.below hb1 lA
  have hbel := hbel.trans (hb1.mono hbel.size)
  have lA1 := hA1.lt
  clear hcon cS hb1 hA lA
  have hvg := validGround_any g hg w1
  generalize validG g = q1 at *
  cases q1
  · go_wp2_with (first | (refine wpList_load_part rfl rfl rfl row66 hA1 (by rw [ofc_size]; omega) ?_; rw [Nat.zero_add, ofc_ext]) | (go_at_call 64; refine hvg.mono ?_; rintro e w2 ⟨rfl, hb2⟩))
    go_ret
    exact ⟨bool_eq (by rw [hV]; rfl), hbel.trans (hb2.mono hbel.size)⟩
  · by_cases h6 : n ≤ 6
    · have hd : decide ((n : Int) ≤ 6) = true := by simp; omega
      have HH := Lib.hid h6
      clear h6
      go_wp2_with (first | (refine wpList_load_part rfl rfl rfl row66 hA1 (by rw [ofc_size]; omega) ?_; rw [Nat.zero_add, ofc_ext]) | (go_at_call 64; refine hvg.mono ?_; rintro e w2 ⟨rfl, hb2⟩; have cS : w2.cell? ⟨w.heap.size, 195, none⟩ = some (.slice a n c) := ((hA1.below hb2 lA1).cell _).trans (ofc_last _ _)))
      go_ret
      exact ⟨bool_eq (by rw [hV]; simp [HH.out]), hbel.trans (hb2.mono hbel.size)⟩
    · have hd : decide ((n : Int) ≤ 6) = false := by simp; omega
      have HH := Lib.hid h6
      clear h6
      go_wp2_with (first | (refine wpList_load_part rfl rfl rfl row66 hA1 (by rw [ofc_size]; omega) ?_; rw [Nat.zero_add, ofc_ext]) | (go_at_call 64; refine hvg.mono ?_; rintro e w2 ⟨rfl, hb2⟩; have cS : w2.cell? ⟨w.heap.size, 195, none⟩ = some (.slice a n c) := ((hA1.below hb2 lA1).cell _).trans (ofc_last _ _)))
      go_ret
      exact ⟨bool_eq (by rw [hV]; simp [HH.out]), hbel.trans (hb2.mono hbel.size)⟩
set_option maxRecDepth 100000 in
set_option maxHeartbeats 400000 in
theorem l07Ok_any (g : Gr) (v : Value) (n : Nat) (P : Nat → Wt) (b : Nat) (T : TypeId) (hg : g.ok) (hP : ∀ i, i < n → (P i).ok) (w : World) (hA : Blk w b (ofc g v) T) (hv : WSl w v n P) :
    Calls Try.prog 121 #[.pointer (some ⟨b, 0, none⟩)] w fun e w' => e = .returned (.bool (validO g n P)) ∧ ∃ m, w' = w.drewN m := by
  obtain ⟨a, c, rfl, hc1, hc2, hcell⟩ := hv
  unfold maxLen at hc2
  have HC := Lib.hid hcell
  clear hcell
  obtain ⟨V, hV⟩ : ∃ V, V = validO g n P := ⟨_, rfl⟩
  rw [← hV]
  unfold validO at hV
  have cS : w.cell? ⟨b, 195, none⟩ = some (.slice a n c) := (hA.cell _).trans (ofc_last _ _)
  have hok := l01Ok_any g b hg w hA.ogat
  generalize validG g = q1 at *
  go_enter Try.func121, Try.ntmps121
  cases q1
  · go_wp2_with (go_at_call 75; refine hok.mono ?_; rintro e w1 ⟨rfl, m0, rfl⟩)
    go_ret
    exact ⟨bool_eq (by rw [hV]; rfl), m0, rfl⟩
  by_cases h6 : n ≤ 6
  · have hd : decide ((6 : Int) < n) = false := by simp; omega
    rw [show decide (n ≤ 6) = true by simp [h6]] at hV
    have HV := Lib.hid hV
    clear hV h6
    go_wp2_with (go_at_call 75; refine hok.mono ?_; rintro e w1 ⟨rfl, m0, rfl⟩)
    clear hd hok
    go_loopw [3] (fun i wr => ∃ k : Nat, k ≤ n ∧ i = .int .i64 k ∧ Hid (∀ j, j < k → badW g (P j) = false) ∧ ∃ m, wr = w.drewN m) (fun i _ => n - (intOf i).toNat)
    case atStart => exact ⟨0, by omega, rfl, Lib.hid fun j hj => by omega, m0, rfl⟩
    case round =>
      obtain ⟨k, hk, rfl, hq, m, hwr⟩ := hrel
      have hgr : GAt wr b g := by rw [hwr]; exact hA.ogat.drewN m
      have cSr : wr.cell? ⟨b, 195, none⟩ = some (.slice a n c) := by rw [hwr]; exact cS
      have hcr : ∀ p : Addr, wr.cell? p = w.cell? p := fun p => by rw [hwr]; rfl
      have HW := Lib.hid hwr
      clear hwr
      by_cases hlt : k < n
      · obtain ⟨b', o, rfl, hb', hcell⟩ := HC.out.resolve_left (by omega)
        have e0 : wr.cell? ⟨b', o + k * 2, none⟩ = some (.int .i8 (P k).cel) := (hcr _).trans ((hcell k 0 hlt (by omega)).trans (P k).get0)
        have e1 : wr.cell? ⟨b', o + k * 2 + 1, none⟩ = some (.float .f32 (P k).lim) := (hcr _).trans ((hcell k 1 hlt (by omega)).trans (P k).get1)
        clear hcell hcr
        have bk : (0 : Int) ≤ k := by omega
        have bl : (k : Int) < n := by omega
        have ⟨p1, p2⟩ := hP k hlt
        have sm : IntKind.i64.wrap (P k).cel = (P k).cel := IntWalk.i64_in _ (by omega)
        have his := fun m' => l01Is_int g b (P k).cel hg (by omega) (wr.drewN m') (hgr.drewN m')
        have hpl := fun m' => l01Plain_any (P k).lim (wr.drewN m')
        cases hc : isCI g (P k).cel <;> rw [hc] at his
        · have HZ := Lib.hid hc
          clear hc
          go_wp2_with fail
          go_quiet ((go_at_call 76; exact Calls.quiet_of_same (his _)))
          go_wp2_with fail
          go_ret
          exact ⟨bool_eq (by rw [HV.out, anyTo_true (i := k) hlt (by simp [badW, HZ.out])]; rfl), _, by rw [HW.out]; exact World.drewN_drewN _ _ _⟩
        · cases hp : plain (P k).lim <;> rw [hp] at hpl
          · have HZ := Lib.hid (And.intro hc hp)
            clear hc hp
            go_wp2_with fail
            go_quiet (first | (go_at_call 76; exact Calls.quiet_of_same (his _)) | (go_at_call 70; exact Calls.quiet_of_same (hpl _)))
            go_wp2_with fail
            go_ret
            exact ⟨bool_eq (by rw [HV.out, anyTo_true (i := k) hlt (by simp [badW, HZ.out.1, HZ.out.2])]; rfl), _, by rw [HW.out]; exact World.drewN_drewN _ _ _⟩
          · have HZ := Lib.hid (And.intro hc hp)
            clear hc hp
            go_wp2_with fail
            go_quiet (first | (go_at_call 76; exact Calls.quiet_of_same (his _)) | (go_at_call 70; exact Calls.quiet_of_same (hpl _)))
            go_wp2_with fail
            go_roundw
            case rel => exact ⟨k + 1, by omega, by go_num, Lib.hid (all_step hq.out (by simp [badW, HZ.out.1, HZ.out.2])), _, by rw [HW.out]; exact World.drewN_drewN _ _ _⟩
            case measure => simp [intOf]; omega
      · obtain rfl : k = n := by omega
        go_wp2_with fail
        go_ret
        exact ⟨bool_eq (by rw [HV.out, anyTo_false.2 hq.out]; rfl), m, HW.out⟩
  · have hd : decide ((6 : Int) < n) = true := by simp; omega
    rw [show decide (n ≤ 6) = false by simp; omega] at hV
    go_wp2_with (go_at_call 75; refine hok.mono ?_; rintro e w1 ⟨rfl, m0, rfl⟩)
    go_ret
    exact ⟨bool_eq (by rw [hV]; rfl), m0, rfl⟩

end Go.Proofs.Ytnfoemgiebplmaa
