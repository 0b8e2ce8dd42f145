import Derived.Test.YtdnnjahdcabdmaaGreatDoorMD21
import Derived.IntWalk
/- ValidOffice, in the program and in the reference. -/
namespace Go.Proofs.YtdnnjahdcabdmaaGreatDoor
open Go.ChangeShapes Go.WideShapes Go.ChangeAt Go.RowKit
set_option linter.unusedVariables false
set_option linter.unusedSimpArgs false
attribute [local irreducible] Calls

/-- Is the number k a cell? -/
def isCI (g : Gr) (k : Int) : Bool := (decide (0 ≤ k) && decide (k ≤ 63)) && isC g k.toNat
def badW (g : Gr) (p : Wt) : Bool := !isCI g p.cel || !plain p.lim
def validO (g : Gr) (n : Nat) (P : Nat → Wt) : Bool := validG g && (decide (n ≤ 6) && !anyTo (badW g) P n)

set_option maxRecDepth 100000 in
set_option maxHeartbeats 400000 in
theorem l01Is_int (g : Gr) (b : Nat) (k : Int) (hg : g.ok) (hk : -9223372036854775808 ≤ k ∧ k ≤ 9223372036854775807) (w : World) (hb : GAt w b g) :
    Calls Tryz.prog 79 #[.pointer (some ⟨b, 0, none⟩), .int .i64 k] w fun e w' => e = .returned (.bool (isCI g k)) ∧ w' = w := by
  by_cases hin : 0 ≤ k ∧ k ≤ 63
  · obtain ⟨j, rfl⟩ : ∃ j : Nat, k = j := ⟨k.toNat, by omega⟩
    have := l01Is_any g b j hg (by omega) w hb
    rw [show isCI g (j : Int) = isC g j from by unfold isCI; simp; omega]
    exact this
  · have hd : (decide (0 ≤ k) && decide (k ≤ 63)) = false := by simp; omega
    have hi := l00In_any k 0 63 w
    rw [hd] at hi
    unfold isCI
    rw [hd]
    go_enter Tryz.func79, Tryz.ntmps79
    go_wp2_with (go_at_call 123; refine hi.mono ?_; rintro e w' ⟨rfl, hw⟩; rw [hw]; clear hw w')
    go_ret
    exact ⟨rfl, rfl⟩

set_option maxRecDepth 100000 in
set_option maxHeartbeats 400000 in
theorem validW_any (g : Gr) (b : Nat) (p : Wt) (hg : g.ok) (hp : p.ok) (w : World) (hb : GAt w b g) :
    Calls Tryz.prog 59 #[.agg p.cells, .pointer (some ⟨b, 0, none⟩)] w fun e w' => e = .returned (.bool (badW g p)) ∧ Below w.heap.size w w' := by
  obtain ⟨p1, p2⟩ := hp
  have hbel := below1 w (.cells #[.int .i8 p.cel, .float .f32 p.lim] 55)
  have hpl := fun w' => isPlain_any p.lim w'
  unfold badW
  rw [p.cells_eq]
  by_cases h0 : p.cel < 0
  · have hd : decide (p.cel < 0) = true := by simp; omega
    rw [show isCI g p.cel = false from by unfold isCI; simp; omega]
    go_enter Tryz.func59, Tryz.ntmps59
    go_wp2_with fail
    go_ret
    exact ⟨rfl, hbel⟩
  · have hd : decide (p.cel < 0) = false := by simp; omega
    by_cases h1 : 64 ≤ p.cel
    · have hd2 : decide (64 ≤ p.cel) = true := by simp; omega
      rw [show isCI g p.cel = false from by unfold isCI; simp; omega]
      go_enter Tryz.func59, Tryz.ntmps59
      go_wp2_with fail
      go_ret
      exact ⟨rfl, hbel⟩
    · have hd2 : decide (64 ≤ p.cel) = false := by simp; omega
      obtain ⟨j, hj⟩ : ∃ j : Nat, p.cel = j := ⟨p.cel.toNat, by omega⟩
      have hhas := has_any g b j hg (by omega) _ (hb.alloc (.cells #[.int .i8 p.cel, .float .f32 p.lim] 55))
      rw [show isCI g p.cel = isC g j from by unfold isCI; rw [hj]; simp; omega]
      rw [← hj] at hhas
      clear hj
      cases hc : isC g j <;> rw [hc] at hhas
      · go_enter Tryz.func59, Tryz.ntmps59
        go_wp2_with (go_at_call 60; refine hhas.mono ?_; rintro e w' ⟨rfl, hw⟩; rw [hw]; clear hw w')
        go_ret
        exact ⟨rfl, hbel⟩
      · go_enter Tryz.func59, Tryz.ntmps59
        go_wp2_with (first | (go_at_call 60; refine hhas.mono ?_; rintro e w' ⟨rfl, hw⟩; rw [hw]; clear hw w') | (go_at_call 34; refine (hpl _).mono ?_; rintro e w' ⟨rfl, hw⟩; rw [hw]; clear hw w'))
        go_ret
        exact ⟨bool_eq (by simp), hbel⟩
theorem callWatch : Callable Tryz.prog 59 := ⟨_, Tryz.func59, by kernel_rfl, by kernel_rfl⟩

set_option maxRecDepth 100000 in
set_option maxHeartbeats 400000 in
theorem validOffice_any (g : Gr) (v : Value) (n : Nat) (P : Nat → Wt) (hg : g.ok) (hP : ∀ i, i < n → (P i).ok) (w : World) (hv : WSl w v n P) :
    Calls Tryz.prog 17 #[.agg (ofc g v)] w fun e w' => e = .returned (.bool (validO g n P)) ∧ Below w.heap.size w w' := by
  obtain ⟨a, c, rfl, hc1, hc2, hform⟩ := id hv
  unfold maxLen at hc2
  clear hform
  obtain ⟨V, hV⟩ : ∃ V, V = validO g n P := ⟨_, rfl⟩
  rw [← hV]
  unfold validO at hV
  go_enter Tryz.func17, Tryz.ntmps17
  go_upto_region 1 with (refine wpList_box_as rfl rfl rfl ?_)
  have hA : Blk (w.alloc (.cells (ofc g (.slice a n c)) 33)) w.heap.size (ofc g (.slice a n c)) 33 := Blk.new _ _ _
  have hbel := below1 w (.cells (ofc g (.slice a n c)) 33)
  generalize w.alloc (.cells (ofc g (.slice a n c)) 33) = W at *
  have lA := hA.lt
  have cS : W.cell? ⟨w.heap.size, 195, none⟩ = some (.slice a n c) := (hA.cell _).trans (ofc_last _ _)
  have hcon := containsWt_any (badW g) 59 #[.pointer (some ⟨w.heap.size, 0, none⟩)] n P _ W (hv.below hbel) callWatch (fun i w' hi hb => validW_any g w.heap.size (P i) hg (hP i hi) w' (hA.ogat.below hb lA))
  generalize anyTo (badW g) P n = q3 at *
  go_upto_region 2 with (go_at_call 58; refine hcon.mono ?_; rintro e w1 ⟨rfl, hb1⟩)
  have hA1 := hA.below hb1 lA
  have hbel := hbel.trans (hb1.mono hbel.size)
  have lA1 := hA1.lt
  clear hcon cS hb1 hA lA
  have hvg := validGround_any g hg w1
  generalize validG g = q1 at *
  cases q1
  · go_wp2_with (first | (refine wpList_load_part rfl rfl rfl row66 hA1 (by rw [ofc_size]; omega) ?_; rw [Nat.zero_add, ofc_ext]) | (go_at_call 32; refine hvg.mono ?_; rintro e w2 ⟨rfl, hb2⟩))
    go_ret
    exact ⟨bool_eq (by rw [hV]; rfl), hbel.trans (hb2.mono hbel.size)⟩
  · by_cases h6 : n ≤ 6
    · have hd : decide ((n : Int) ≤ 6) = true := by simp; omega
      have HH := Lib.hid h6
      clear h6
      go_wp2_with (first | (refine wpList_load_part rfl rfl rfl row66 hA1 (by rw [ofc_size]; omega) ?_; rw [Nat.zero_add, ofc_ext]) | (go_at_call 32; refine hvg.mono ?_; rintro e w2 ⟨rfl, hb2⟩; have cS : w2.cell? ⟨w.heap.size, 195, none⟩ = some (.slice a n c) := ((hA1.below hb2 lA1).cell _).trans (ofc_last _ _)))
      go_ret
      exact ⟨bool_eq (by rw [hV]; simp [HH.out]), hbel.trans (hb2.mono hbel.size)⟩
    · have hd : decide ((n : Int) ≤ 6) = false := by simp; omega
      have HH := Lib.hid h6
      clear h6
      go_wp2_with (first | (refine wpList_load_part rfl rfl rfl row66 hA1 (by rw [ofc_size]; omega) ?_; rw [Nat.zero_add, ofc_ext]) | (go_at_call 32; refine hvg.mono ?_; rintro e w2 ⟨rfl, hb2⟩; have cS : w2.cell? ⟨w.heap.size, 195, none⟩ = some (.slice a n c) := ((hA1.below hb2 lA1).cell _).trans (ofc_last _ _)))
      go_ret
      exact ⟨bool_eq (by rw [hV]; simp [HH.out]), hbel.trans (hb2.mono hbel.size)⟩
set_option maxRecDepth 100000 in
set_option maxHeartbeats 400000 in
theorem l07Ok_any (g : Gr) (v : Value) (n : Nat) (P : Nat → Wt) (b : Nat) (T : TypeId) (hg : g.ok) (hP : ∀ i, i < n → (P i).ok) (w : World) (hA : Blk w b (ofc g v) T) (hv : WSl w v n P) :
    Calls Tryz.prog 109 #[.pointer (some ⟨b, 0, none⟩)] w fun e w' => e = .returned (.bool (validO g n P)) ∧ ∃ m, w' = w.drewN m := by
  obtain ⟨a, c, rfl, hc1, hc2, hcell⟩ := hv
  unfold maxLen at hc2
  have HC := Lib.hid hcell
  clear hcell
  obtain ⟨V, hV⟩ : ∃ V, V = validO g n P := ⟨_, rfl⟩
  rw [← hV]
  unfold validO at hV
  have cS : w.cell? ⟨b, 195, none⟩ = some (.slice a n c) := (hA.cell _).trans (ofc_last _ _)
  have hok := l01Ok_any g b hg w hA.ogat
  generalize validG g = q1 at *
  go_enter Tryz.func109, Tryz.ntmps109
  cases q1
  · go_wp2_with (go_at_call 78; refine hok.mono ?_; rintro e w1 ⟨rfl, m0, rfl⟩)
    go_ret
    exact ⟨bool_eq (by rw [hV]; rfl), m0, rfl⟩
  by_cases h6 : n ≤ 6
  · have hd : decide ((6 : Int) < n) = false := by simp; omega
    rw [show decide (n ≤ 6) = true by simp [h6]] at hV
    have HV := Lib.hid hV
    clear hV h6
    go_wp2_with (go_at_call 78; refine hok.mono ?_; rintro e w1 ⟨rfl, m0, rfl⟩)
    clear hd hok
    go_loopw [3] (fun i wr => ∃ k : Nat, k ≤ n ∧ i = .int .i64 k ∧ Hid (∀ j, j < k → badW g (P j) = false) ∧ ∃ m, wr = w.drewN m) (fun i _ => n - (intOf i).toNat)
    case atStart => exact ⟨0, by omega, rfl, Lib.hid fun j hj => by omega, m0, rfl⟩
    case round =>
      obtain ⟨k, hk, rfl, hq, m, hwr⟩ := hrel
      have hgr : GAt wr b g := by rw [hwr]; exact hA.ogat.drewN m
      have cSr : wr.cell? ⟨b, 195, none⟩ = some (.slice a n c) := by rw [hwr]; exact cS
      have hcr : ∀ p : Addr, wr.cell? p = w.cell? p := fun p => by rw [hwr]; rfl
      have HW := Lib.hid hwr
      clear hwr
      by_cases hlt : k < n
      · obtain ⟨b', o, rfl, hb', hcell⟩ := HC.out.resolve_left (by omega)
        have e0 : wr.cell? ⟨b', o + k * 2, none⟩ = some (.int .i8 (P k).cel) := (hcr _).trans ((hcell k 0 hlt (by omega)).trans (P k).get0)
        have e1 : wr.cell? ⟨b', o + k * 2 + 1, none⟩ = some (.float .f32 (P k).lim) := (hcr _).trans ((hcell k 1 hlt (by omega)).trans (P k).get1)
        clear hcell hcr
        have bk : (0 : Int) ≤ k := by omega
        have bl : (k : Int) < n := by omega
        have ⟨p1, p2⟩ := hP k hlt
        have sm : IntKind.i64.wrap (P k).cel = (P k).cel := IntWalk.i64_in _ (by omega)
        have his := fun m' => l01Is_int g b (P k).cel hg (by omega) (wr.drewN m') (hgr.drewN m')
        have hpl := fun m' => l01Plain_any (P k).lim (wr.drewN m')
        cases hc : isCI g (P k).cel <;> rw [hc] at his
        · have HZ := Lib.hid hc
          clear hc
          go_wp2_with fail
          go_quiet ((go_at_call 79; exact Calls.quiet_of_same (his _)))
          go_wp2_with fail
          go_ret
          exact ⟨bool_eq (by rw [HV.out, anyTo_true (i := k) hlt (by simp [badW, HZ.out])]; rfl), _, by rw [HW.out]; exact World.drewN_drewN _ _ _⟩
        · cases hp : plain (P k).lim <;> rw [hp] at hpl
          · have HZ := Lib.hid (And.intro hc hp)
            clear hc hp
            go_wp2_with fail
            go_quiet (first | (go_at_call 79; exact Calls.quiet_of_same (his _)) | (go_at_call 92; exact Calls.quiet_of_same (hpl _)))
            go_wp2_with fail
            go_ret
            exact ⟨bool_eq (by rw [HV.out, anyTo_true (i := k) hlt (by simp [badW, HZ.out.1, HZ.out.2])]; rfl), _, by rw [HW.out]; exact World.drewN_drewN _ _ _⟩
          · have HZ := Lib.hid (And.intro hc hp)
            clear hc hp
            go_wp2_with fail
            go_quiet (first | (go_at_call 79; exact Calls.quiet_of_same (his _)) | (go_at_call 92; exact Calls.quiet_of_same (hpl _)))
            go_wp2_with fail
            go_roundw
            case rel => exact ⟨k + 1, by omega, by go_num, Lib.hid (all_step hq.out (by simp [badW, HZ.out.1, HZ.out.2])), _, by rw [HW.out]; exact World.drewN_drewN _ _ _⟩
            case measure => simp [intOf]; omega
      · obtain rfl : k = n := by omega
        go_wp2_with fail
        go_ret
        exact ⟨bool_eq (by rw [HV.out, anyTo_false.2 hq.out]; rfl), m, HW.out⟩
  · have hd : decide ((6 : Int) < n) = true := by simp; omega
    rw [show decide (n ≤ 6) = false by simp; omega] at hV
    go_wp2_with (go_at_call 78; refine hok.mono ?_; rintro e w1 ⟨rfl, m0, rfl⟩)
    go_ret
    exact ⟨bool_eq (by rw [hV]; rfl), m0, rfl⟩

end Go.Proofs.YtdnnjahdcabdmaaGreatDoor
/- ValidPermits, in the program and in the reference. -/
namespace Go.Proofs.YtdnnjahdcabdmaaGreatDoor
open Go.ChangeShapes Go.WideShapes Go.ChangeAt Go.RowKit
set_option linter.unusedVariables false
set_option linter.unusedSimpArgs false
attribute [local irreducible] Calls

/-- A permit that is none by its own numbers; that is none on this ground. -/
def badP (p : Pm) : Bool := badOwner p || (badRate p || !(decide (0 ≤ p.cel) && decide (p.cel ≤ 63)))
def badPG (g : Gr) (p : Pm) : Bool := badOwner p || (badRate p || !isCI g p.cel)
def validP (g : Gr) (n : Nat) (P : Nat → Wt) (m : Nat) (Q : Nat → Pm) : Bool := validO g n P && (decide (m ≤ 6) && !anyTo (badPG g) Q m)
theorem owner_bad (p : Pm) : (decide (0 ≤ p.own) && decide (p.own ≤ 7)) = !badOwner p := by unfold badOwner; simp
theorem rate_bad (p : Pm) : (decide (0 ≤ p.rat) && decide (p.rat ≤ 400)) = !badRate p := by unfold badRate; simp

set_option maxRecDepth 100000 in
set_option maxHeartbeats 400000 in
theorem validP1_any (g : Gr) (b : Nat) (p : Pm) (hg : g.ok) (hp : p.ok) (w : World) (hb : GAt w b g) :
    Calls Tryz.prog 62 #[.agg p.cells, .pointer (some ⟨b, 0, none⟩)] w fun e w' => e = .returned (.bool (badPG g p)) ∧ Below w.heap.size w w' := by
  obtain ⟨h1, ⟨p1, p2⟩, h3⟩ := hp
  have hbel := below1 w (.cells #[.int .i8 p.own, .int .i8 p.cel, .int .i16 p.rat] 59)
  have ho := fun w' => isOwner_any p.own w' h1
  have hr := fun w' => isRate_any p.rat w' h3
  rw [owner_bad] at ho
  rw [rate_bad] at hr
  unfold badPG
  rw [p.cells_eq]
  cases hq1 : badOwner p <;> rw [hq1] at ho
  · cases hq2 : badRate p <;> rw [hq2] at hr
    · by_cases h0 : p.cel < 0
      · have hd : decide (p.cel < 0) = true := by simp; omega
        rw [show isCI g p.cel = false from by unfold isCI; simp; omega]
        go_enter Tryz.func62, Tryz.ntmps62
        go_wp2_with (first | (go_at_call 63; refine (ho _).mono ?_; rintro e w' ⟨rfl, hw⟩; rw [hw]; clear hw w') | (go_at_call 64; refine (hr _).mono ?_; rintro e w' ⟨rfl, hw⟩; rw [hw]; clear hw w'))
        go_ret
        exact ⟨rfl, hbel⟩
      · have hd : decide (p.cel < 0) = false := by simp; omega
        by_cases h4 : 64 ≤ p.cel
        · have hd2 : decide (64 ≤ p.cel) = true := by simp; omega
          rw [show isCI g p.cel = false from by unfold isCI; simp; omega]
          go_enter Tryz.func62, Tryz.ntmps62
          go_wp2_with (first | (go_at_call 63; refine (ho _).mono ?_; rintro e w' ⟨rfl, hw⟩; rw [hw]; clear hw w') | (go_at_call 64; refine (hr _).mono ?_; rintro e w' ⟨rfl, hw⟩; rw [hw]; clear hw w'))
          go_ret
          exact ⟨rfl, hbel⟩
        · have hd2 : decide (64 ≤ p.cel) = false := by simp; omega
          obtain ⟨j, hj⟩ : ∃ j : Nat, p.cel = j := ⟨p.cel.toNat, by omega⟩
          have hhas := has_any g b j hg (by omega) _ (hb.alloc (.cells #[.int .i8 p.own, .int .i8 p.cel, .int .i16 p.rat] 59))
          rw [show isCI g p.cel = isC g j from by unfold isCI; rw [hj]; simp; omega]
          rw [← hj] at hhas
          clear hj
          go_enter Tryz.func62, Tryz.ntmps62
          go_wp2_with (first | (go_at_call 63; refine (ho _).mono ?_; rintro e w' ⟨rfl, hw⟩; rw [hw]; clear hw w') | (go_at_call 64; refine (hr _).mono ?_; rintro e w' ⟨rfl, hw⟩; rw [hw]; clear hw w') | (go_at_call 60; refine hhas.mono ?_; rintro e w' ⟨rfl, hw⟩; rw [hw]; clear hw w'))
          go_ret
          exact ⟨bool_eq (by simp), hbel⟩
    · go_enter Tryz.func62, Tryz.ntmps62
      go_wp2_with (first | (go_at_call 63; refine (ho _).mono ?_; rintro e w' ⟨rfl, hw⟩; rw [hw]; clear hw w') | (go_at_call 64; refine (hr _).mono ?_; rintro e w' ⟨rfl, hw⟩; rw [hw]; clear hw w'))
      go_ret
      exact ⟨rfl, hbel⟩
  · go_enter Tryz.func62, Tryz.ntmps62
    go_wp2_with (first | (go_at_call 63; refine (ho _).mono ?_; rintro e w' ⟨rfl, hw⟩; rw [hw]; clear hw w'))
    go_ret
    exact ⟨rfl, hbel⟩
theorem callPermit : Callable Tryz.prog 62 := ⟨_, Tryz.func62, by kernel_rfl, by kernel_rfl⟩

set_option maxRecDepth 100000 in
set_option maxHeartbeats 400000 in
theorem validPermits_any (g : Gr) (v u : Value) (n m : Nat) (P : Nat → Wt) (Q : Nat → Pm) (hg : g.ok) (hP : ∀ i, i < n → (P i).ok) (hQ : ∀ i, i < m → (Q i).ok) (w : World) (hv : WSl w v n P) (hu : PSl w u m Q) :
    Calls Tryz.prog 18 #[.agg (ofc g v), u] w fun e w' => e = .returned (.bool (validP g n P m Q)) ∧ Below w.heap.size w w' := by
  obtain ⟨a, c, rfl, hc1, hc2, hform⟩ := id hu
  unfold maxLen at hc2
  clear hform
  obtain ⟨V, hV⟩ : ∃ V, V = validP g n P m Q := ⟨_, rfl⟩
  rw [← hV]
  unfold validP at hV
  go_enter Tryz.func18, Tryz.ntmps18
  go_upto_region 1 with (refine wpList_box_as rfl rfl rfl ?_)
  have hA : Blk (w.alloc (.cells (ofc g v) 33)) w.heap.size (ofc g v) 33 := Blk.new _ _ _
  have hbel := below1 w (.cells (ofc g v) 33)
  generalize w.alloc (.cells (ofc g v) 33) = W at *
  have lA := hA.lt
  have hcon := containsPm_any (badPG g) 62 #[.pointer (some ⟨w.heap.size, 0, none⟩)] m Q _ W (hu.below hbel) callPermit (fun i w' hi hb => validP1_any g w.heap.size (Q i) hg (hQ i hi) w' (hA.ogat.below hb lA))
  generalize anyTo (badPG g) Q m = q3 at *
  go_upto_region 2 with (go_at_call 61; refine hcon.mono ?_; rintro e w1 ⟨rfl, hb1⟩)
  have hA1 := hA.below hb1 lA
  have hbel := hbel.trans (hb1.mono hbel.size)
  clear hcon hb1 hA lA
  have hvo := validOffice_any g v n P hg hP w1 (hv.below hbel)
  generalize validO g n P = q1 at *
  cases q1
  · go_wp2_with (first | (refine wpList_load_blk rfl rfl rfl row76 hA1 (ofc_size _ _) ?_) | (go_at_call 17; refine hvo.mono ?_; rintro e w2 ⟨rfl, hb2⟩))
    go_ret
    exact ⟨bool_eq (by rw [hV]; rfl), hbel.trans (hb2.mono hbel.size)⟩
  · by_cases h6 : m ≤ 6
    · have hd : decide ((m : Int) ≤ 6) = true := by simp; omega
      have HH := Lib.hid h6
      clear h6
      go_wp2_with (first | (refine wpList_load_blk rfl rfl rfl row76 hA1 (ofc_size _ _) ?_) | (go_at_call 17; refine hvo.mono ?_; rintro e w2 ⟨rfl, hb2⟩))
      go_ret
      exact ⟨bool_eq (by rw [hV]; simp [HH.out]), hbel.trans (hb2.mono hbel.size)⟩
    · have hd : decide ((m : Int) ≤ 6) = false := by simp; omega
      have HH := Lib.hid h6
      clear h6
      go_wp2_with (first | (refine wpList_load_blk rfl rfl rfl row76 hA1 (ofc_size _ _) ?_) | (go_at_call 17; refine hvo.mono ?_; rintro e w2 ⟨rfl, hb2⟩))
      go_ret
      exact ⟨bool_eq (by rw [hV]; simp [HH.out]), hbel.trans (hb2.mono hbel.size)⟩
/-- May these be permits, whatever the ground? -/
def plainPs (m : Nat) (Q : Nat → Pm) : Bool := decide (m ≤ 6) && !anyTo badP Q m

set_option maxRecDepth 100000 in
set_option maxHeartbeats 400000 in
theorem l07Plain_any (m : Nat) (Q : Nat → Pm) (hQ : ∀ i, i < m → (Q i).ok) (u : Value) (w : World) (hu : PSl w u m Q) :
    Calls Tryz.prog 110 #[u] w fun e w' => e = .returned (.bool (plainPs m Q)) ∧ Below w.heap.size w w' := by
  obtain ⟨a, c, rfl, hc1, hc2, hcell⟩ := hu
  unfold maxLen at hc2
  have HC := Lib.hid hcell
  clear hcell
  go_enter Tryz.func110, Tryz.ntmps110
  go_wp2_with fail
  go_loopw [3] (fun i wr => ∃ k : Nat, k ≤ m ∧ i = .int .i64 k ∧ Hid (∀ j, j < k → badP (Q j) = false) ∧ Below w.heap.size w wr) (fun i _ => m - (intOf i).toNat)
  case atStart => exact ⟨0, by omega, rfl, Lib.hid fun j hj => by omega, Below.refl _ _⟩
  case round =>
    obtain ⟨k, hk, rfl, hq, hbel⟩ := hrel
    by_cases hlt : k < m
    · obtain ⟨b, o, rfl, hb, hcell⟩ := HC.out.resolve_left (by omega)
      have e0 : wr.cell? ⟨b, o + k * 3, none⟩ = some (.int .i8 (Q k).own) := (hbel.cell (p := ⟨b, _, none⟩) hb).trans ((hcell k 0 hlt (by omega)).trans (Q k).get0)
      have e1 : wr.cell? ⟨b, o + k * 3 + 1, none⟩ = some (.int .i8 (Q k).cel) := (hbel.cell (p := ⟨b, _, none⟩) hb).trans ((hcell k 1 hlt (by omega)).trans (Q k).get1)
      have e2 : wr.cell? ⟨b, o + k * 3 + 2, none⟩ = some (.int .i16 (Q k).rat) := (hbel.cell (p := ⟨b, _, none⟩) hb).trans ((hcell k 2 hlt (by omega)).trans (Q k).get2)
      clear hcell
      have bk : (0 : Int) ≤ k := by omega
      have bl : (k : Int) < m := by omega
      have ⟨o1, o2, o3⟩ := hQ k hlt
      have hbel1 := hbel.alloc hbel.size (.cells #[.int .i8 (Q k).own, .int .i8 (Q k).cel, .int .i16 (Q k).rat] 59)
      have ho := owner_bad (Q k)
      have hr := rate_bad (Q k)
      cases hq1 : badOwner (Q k) <;> rw [hq1] at ho
      · cases hcl : (decide (0 ≤ (Q k).cel) && decide ((Q k).cel ≤ 63))
        · have HZ := Lib.hid (And.intro hq1 hcl)
          clear hq1
          go_wp2_with (go_at_call 123; refine (l00In_any _ _ _ _).mono ?_; (first | rw [ho] | rw [hcl]); rintro e w' ⟨rfl, hw⟩; rw [hw]; clear hw w')
          go_ret
          exact ⟨bool_eq (by unfold plainPs; rw [anyTo_true (i := k) hlt (by unfold badP; rw [HZ.out.1, HZ.out.2]; simp)]; simp), hbel1⟩
        · cases hq2 : badRate (Q k) <;> rw [hq2] at hr
          · have HZ := Lib.hid (And.intro hq1 (And.intro hcl hq2))
            clear hq1 hq2
            go_wp2_with (go_at_call 123; refine (l00In_any _ _ _ _).mono ?_; (first | rw [ho] | rw [hcl] | rw [hr]); rintro e w' ⟨rfl, hw⟩; rw [hw]; clear hw w')
            go_roundw
            case rel => exact ⟨k + 1, by omega, by go_num, Lib.hid (all_step hq.out (by unfold badP; rw [HZ.out.1, HZ.out.2.1, HZ.out.2.2]; rfl)), hbel1⟩
            case measure => simp [intOf]; omega
          · have HZ := Lib.hid (And.intro hq1 (And.intro hcl hq2))
            clear hq1 hq2
            go_wp2_with (go_at_call 123; refine (l00In_any _ _ _ _).mono ?_; (first | rw [ho] | rw [hcl] | rw [hr]); rintro e w' ⟨rfl, hw⟩; rw [hw]; clear hw w')
            go_ret
            exact ⟨bool_eq (by unfold plainPs; rw [anyTo_true (i := k) hlt (by unfold badP; rw [HZ.out.1, HZ.out.2.1, HZ.out.2.2]; rfl)]; simp), hbel1⟩
      · have HZ := Lib.hid hq1
        clear hq1
        go_wp2_with (go_at_call 123; refine (l00In_any _ _ _ _).mono ?_; rw [ho]; rintro e w' ⟨rfl, hw⟩; rw [hw]; clear hw w')
        go_ret
        exact ⟨bool_eq (by unfold plainPs; rw [anyTo_true (i := k) hlt (by unfold badP; rw [HZ.out]; rfl)]; simp), hbel1⟩
    · obtain rfl : k = m := by omega
      go_wp2_with fail
      go_ret
      exact ⟨bool_eq (by unfold plainPs; rw [anyTo_false.2 hq.out]; simp only [Bool.not_false, Bool.and_true]; exact decide_eq_decide.2 (by omega)), hbel⟩

theorem validP_eq (g : Gr) (n : Nat) (P : Nat → Wt) (m : Nat) (Q : Nat → Pm) : validP g n P m Q = (validO g n P && (plainPs m Q && !anyTo (fun p => !isCI g p.cel) Q m)) := by
  unfold validP plainPs
  rw [Bool.and_assoc (decide (m ≤ 6))]
  congr 2
  apply Bool.eq_iff_iff.2
  simp only [Bool.not_eq_true', Bool.and_eq_true, anyTo_false]
  constructor
  · intro h
    refine ⟨fun i hi => ?_, fun i hi => ?_⟩
    · have h1 := h i hi
      unfold badPG at h1
      unfold badP
      simp only [Bool.or_eq_false_iff, Bool.not_eq_false'] at h1 ⊢
      refine ⟨h1.1, h1.2.1, ?_⟩
      have := h1.2.2
      unfold isCI at this
      exact (Bool.and_eq_true_iff.1 this).1
    · have h1 := h i hi
      unfold badPG at h1
      simp only [Bool.or_eq_false_iff] at h1
      exact h1.2.2
  · rintro ⟨h, h'⟩ i hi
    have h1 := h i hi
    have h2 := h' i hi
    unfold badP at h1
    unfold badPG
    simp only [Bool.or_eq_false_iff] at h1 ⊢
    exact ⟨h1.1, h1.2.1, h2⟩

set_option maxRecDepth 100000 in
set_option maxHeartbeats 400000 in
theorem l07Fits_any (g : Gr) (v u : Value) (n m : Nat) (P : Nat → Wt) (Q : Nat → Pm) (b : Nat) (T : TypeId) (hg : g.ok) (hP : ∀ i, i < n → (P i).ok) (hQ : ∀ i, i < m → (Q i).ok) (w : World) (hA : Blk w b (ofc g v) T) (hv : WSl w v n P) (hu : PSl w u m Q) :
    Calls Tryz.prog 53 #[.pointer (some ⟨b, 0, none⟩), u] w fun e w' => e = .returned (.bool (validP g n P m Q)) ∧ Below w.heap.size w w' := by
  obtain ⟨a, c, rfl, hc1, hc2, hcell⟩ := id hu
  unfold maxLen at hc2
  have HC := Lib.hid hcell
  clear hcell
  obtain ⟨V, hV⟩ : ∃ V, V = validP g n P m Q := ⟨_, rfl⟩
  rw [← hV]
  rw [validP_eq] at hV
  have hok := l07Ok_any g v n P b T hg hP w hA hv
  have hpl := fun k => l07Plain_any m Q hQ _ (w.drewN k) (hu.below (below_drewN (Below.refl _ _) k))
  generalize validO g n P = q1 at *
  generalize plainPs m Q = q2 at *
  have lb := hA.lt
  go_enter Tryz.func53, Tryz.ntmps53
  cases q1
  · go_wp2_with (go_at_call 109; refine hok.mono ?_; rintro e w1 ⟨rfl, m0, rfl⟩)
    go_ret
    exact ⟨bool_eq (by rw [hV]; rfl), below_drewN (Below.refl _ _) _⟩
  cases q2
  · go_wp2_with (first | (go_at_call 109; refine hok.mono ?_; rintro e w1 ⟨rfl, m0, rfl⟩) | (go_at_call 110; refine (hpl _).mono ?_; rintro e w2 ⟨rfl, hb2⟩))
    go_ret
    exact ⟨bool_eq (by rw [hV]; rfl), (below_drewN (Below.refl _ _) _).trans hb2⟩
  have HV := Lib.hid hV
  clear hV
  go_wp2_with (first | (go_at_call 109; refine hok.mono ?_; rintro e w1 ⟨rfl, m0, rfl⟩) | (go_at_call 110; refine (hpl _).mono ?_; rintro e w2 ⟨rfl, hb2⟩))
  have hbel : Below w.heap.size w w2 := (below_drewN (Below.refl _ _) _).trans hb2
  have hgr : GAt w2 b g := hA.ogat.below hbel lb
  clear hok hpl hb2
  go_loopw [5] (fun i wr => ∃ k : Nat, k ≤ m ∧ i = .int .i64 k ∧ Hid (∀ j, j < k → (!isCI g (Q j).cel) = false) ∧ GAt wr b g ∧ Below w.heap.size w wr) (fun i _ => m - (intOf i).toNat)
  case atStart => exact ⟨0, by omega, rfl, Lib.hid fun j hj => by omega, hgr, hbel⟩
  case round =>
    clear hgr hbel
    obtain ⟨k, hk, rfl, hq, hgr, hbel⟩ := hrel
    by_cases hlt : k < m
    · obtain ⟨b', o, rfl, hb', hcell⟩ := HC.out.resolve_left (by omega)
      have e1 : wr.cell? ⟨b', o + k * 3 + 1, none⟩ = some (.int .i8 (Q k).cel) := (hbel.cell (p := ⟨b', _, none⟩) hb').trans ((hcell k 1 hlt (by omega)).trans (Q k).get1)
      clear hcell
      have bk : (0 : Int) ≤ k := by omega
      have bl : (k : Int) < m := by omega
      have ⟨o1, ⟨p1, p2⟩, o3⟩ := hQ k hlt
      have sm : IntKind.i64.wrap (Q k).cel = (Q k).cel := IntWalk.i64_in _ (by omega)
      have his := fun m' => l01Is_int g b (Q k).cel hg (by omega) (wr.drewN m') (hgr.drewN m')
      cases hc : isCI g (Q k).cel <;> rw [hc] at his
      · have HZ := Lib.hid hc
        clear hc
        go_wp2_with fail
        go_quiet ((go_at_call 79; exact Calls.quiet_of_same (his _)))
        go_wp2_with fail
        go_ret
        exact ⟨bool_eq (by rw [HV.out, anyTo_true (i := k) hlt (by simp [HZ.out])]; rfl), below_drewN hbel _⟩
      · have HZ := Lib.hid hc
        clear hc
        go_wp2_with fail
        go_quiet ((go_at_call 79; exact Calls.quiet_of_same (his _)))
        go_wp2_with fail
        go_roundw
        case rel => exact ⟨k + 1, by omega, by go_num, Lib.hid (all_step hq.out (by simp [HZ.out])), hgr.drewN _, below_drewN hbel _⟩
        case measure => simp [intOf]; omega
    · obtain rfl : k = m := by omega
      go_wp2_with fail
      go_ret
      exact ⟨bool_eq (by rw [HV.out, (anyTo_false (q := fun p : Pm => !isCI g p.cel)).2 hq.out]; rfl), hbel⟩

end Go.Proofs.YtdnnjahdcabdmaaGreatDoor
