/- ReadWells, in the reference: the walk. -/
import Derived.Test.YtcojgmgoiopboaaGreatDoorRdWlP
import Derived.Test.YtcojgmgoiopboaaGreatDoorRdRgS
namespace Go.Proofs.YtcojgmgoiopboaaGreatDoor
open Go.ChangeShapes Go.WideShapes Go.ChangeAt Go.RowKit
set_option linter.unusedVariables false
set_option linter.unusedSimpArgs false
attribute [local irreducible] Calls

theorem l03Place_any (n : Int) (w : World) :
    Calls Tryz.prog 36 #[.int .i64 n] w fun e w' => e = .returned (.bool (in100 n)) ∧ w' = w := by
  unfold in100
  go_enter Tryz.func36, Tryz.ntmps36
  go_wp2_with (go_at_call 23; refine (l00In_any _ _ _ _).mono ?_; rintro e w' ⟨rfl, rfl⟩)
  go_ret
  exact ⟨rfl, rfl⟩
set_option maxRecDepth 100000 in
set_option maxHeartbeats 400000 in
theorem l03Plain_any (b : Nat) (w : World) :
    Calls Tryz.prog 61 #[.float .f32 b] w fun e w' => e = .returned (.bool (plain b)) ∧ w' = w := by
  have h1 := fge_eq b 3380609024
  have h2 := fle_eq b 1233125376
  unfold plain
  cases hd : fge b 3380609024 <;> rw [hd] at h1
  · go_enter Tryz.func61, Tryz.ntmps61
    go_wp2_with fail
    go_ret
    exact ⟨rfl, rfl⟩
  · go_enter Tryz.func61, Tryz.ntmps61
    go_wp2_with fail
    go_ret
    exact ⟨rfl, rfl⟩
set_option maxRecDepth 100000 in
set_option maxHeartbeats 400000 in
theorem l03Ok_any (x y : Int) (r : Nat) (hx : -100 ≤ x ∧ x ≤ 100) (hy : -100 ≤ y ∧ y ≤ 100) (w : World) :
    Calls Tryz.prog 37 #[.agg #[.int .i8 x, .int .i8 y, .float .f32 r]] w fun e w' => e = .returned (.bool (plain r)) ∧ Below w.heap.size w w' := by
  have p1 := fun w' => l03Place_any x w'
  have p2 := fun w' => l03Place_any y w'
  have p3 := fun w' => l03Plain_any r w'
  have i1 : in100 x = true := by unfold in100; simp; omega
  have i2 : in100 y = true := by unfold in100; simp; omega
  rw [i1] at p1
  rw [i2] at p2
  clear i1 i2
  generalize plain r = b at *
  go_enter Tryz.func37, Tryz.ntmps37
  go_wp2_with (first | (go_at_call 36; first | (refine (p1 _).mono ?_; rintro e w' ⟨rfl, hw⟩; rw [hw]; clear hw w' p1) | (refine (p2 _).mono ?_; rintro e w' ⟨rfl, hw⟩; rw [hw]; clear hw w' p2)) | (go_at_call 61; refine (p3 _).mono ?_; rintro e w' ⟨rfl, hw⟩; rw [hw]; clear hw w'))
  go_ret
  exact ⟨rfl, below1 _ _⟩
theorem wrap8s (n : Int) (h : -128 ≤ n ∧ n ≤ 127) : IntKind.i8.wrap n = n := by
  simp [IntKind.wrap, IntKind.bits, IntKind.signed]
  omega
set_option maxRecDepth 100000 in
set_option maxHeartbeats 4000000 in
theorem l03Read_any (s : ByteArray) (hs : s.size ≤ 1048576) (w : World) :
    Calls Tryz.prog 14 #[.string s] w fun e w' => ∃ x y r b, e = .returned (.tuple #[.agg #[.int .i8 x, .int .i8 y, .float .f32 r], .bool b]) ∧ (b = true → wlW (splitL 32 s.data.toList) = ⟨x, y, r⟩) ∧ (b = true ↔ okLW (splitL 32 s.data.toList)) ∧ Below w.heap.size w w' := by
  have hsp := fun w' => l01Split_any s 32 hs w'
  have hsp : ∀ w', Calls Tryz.prog 13 #[.string s, .int .u8 32] w' fun e w'' => ∃ v g, e = .returned v ∧ Own w'' g 9 1 v (splitL 32 s.data.toList).length (strs (splitL 32 s.data.toList)) ∧ w'.heap.size ≤ g ∧ Below w'.heap.size w' w'' := hsp
  have hll : s.data.toList.length = s.size := rfl
  have hle := fun i => splitL_get_le 32 s.data.toList i
  rw [hll] at hle
  have HLE := Lib.hid (fun i => Nat.le_trans (hle i) hs)
  have hwl := splitL_length 32 s.data.toList
  clear hle
  generalize splitL 32 s.data.toList = ws at *
  go_enter Tryz.func14, Tryz.ntmps14
  go_upto_region 1 with fail
  have hR := Blk.new w #[.int .i8 0, .int .i8 0, .float .f32 0] 41
  have hbel := below1 w (.cells #[.int .i8 0, .int .i8 0, .float .f32 0] 41)
  have hzW : (w.alloc (.cells #[.int .i8 0, .int .i8 0, .float .f32 0] 41)).heap.size = w.heap.size + 1 := World.size_alloc _ _
  have HZ := Lib.hid hzW
  clear hzW
  generalize w.alloc (.cells #[.int .i8 0, .int .i8 0, .float .f32 0] 41) = W at *
  go_upto_region 2 with (go_at_call 13; refine (hsp _).mono ?_; rintro e w2 ⟨v8, g8, rfl, hO8, hg8, hb8⟩)
  have hzW := HZ.out
  have hR := hR.below hb8 (by omega)
  have hbw := hbel.trans (hb8.mono (by omega))
  have hzw2 := hbw.size
  have hw2 : w.heap.size + 1 ≤ w2.heap.size := by have := hb8.size; omega
  clear hb8 hsp hbel hzW
  obtain ⟨cap8, rfl, hc81, hc82⟩ := hO8.form
  by_cases h3 : ws.length = 3
  rotate_left
  · have b3 : ¬ ((ws.length : Nat) : Int) = 3 := by omega
    have hno : ¬ okLW ws := fun q => h3 q.1
    clear h3
    go_wp2_with (refine wpList_store_blk (C' := #[.int .i8 0, .int .i8 0, .float .f32 0]) rfl rfl rfl rfl rowWl hR rfl rfl (by decide) ?_)
    refine bodyPost_row2 rfl rfl rowWl (hR.setRow _) rfl rfl ?_
    exact ⟨_, _, _, _, rfl, fun h => (by cases h), ⟨fun h => (by cases h), fun h => absurd h hno⟩, below_setRow hbw (Nat.le_refl _) _⟩
  have c0 := (hO8.cell 0 (by omega)).trans (strs_getD (by omega))
  have c1 := (hO8.cell 1 (by omega)).trans (strs_getD (by omega))
  have c2 := (hO8.cell 2 (by omega)).trans (strs_getD (by omega))
  have l8 := hO8.lt
  have n0 := fun w' => l03ReadSigned_any ⟨(ws.getD 0 []).toArray⟩ (by rw [size_of]; exact HLE.out 0) w'
  have n1 := fun w' => l03ReadSigned_any ⟨(ws.getD 1 []).toArray⟩ (by rw [size_of]; exact HLE.out 1) w'
  have n2 := fun w' => readNumberS_any ⟨(ws.getD 2 []).toArray⟩ (by rw [size_of]; exact HLE.out 2) w'
  rw [show (⟨(ws.getD 0 []).toArray⟩ : ByteArray).data.toList = ws.getD 0 [] by simp] at n0
  rw [show (⟨(ws.getD 1 []).toArray⟩ : ByteArray).data.toList = ws.getD 1 [] by simp] at n1
  rw [show (⟨(ws.getD 2 []).toArray⟩ : ByteArray).data.toList = ws.getD 2 [] by simp] at n2
  have HOK : Hid (okLW ws ↔ okL ws = true) := Lib.hid ⟨fun q => q.2, fun q => ⟨h3, q⟩⟩
  have hokb : okL ws = (sgB (ws.getD 0 []) && sgB (ws.getD 1 []) && in100 (sgV (ws.getD 0 [])) && in100 (sgV (ws.getD 1 [])) && decide (numC (ws.getD 2 []) = 0) && plain (numB (ws.getD 2 []))) := rfl
  have HPW : Hid (wlW ws = ⟨sgV (ws.getD 0 []), sgV (ws.getD 1 []), numB (ws.getD 2 [])⟩) := Lib.hid rfl
  have p1 := fun w' => l03Place_any (sgV (ws.getD 0 [])) w'
  have p2 := fun w' => l03Place_any (sgV (ws.getD 1 [])) w'
  have hI1 : in100 (sgV (ws.getD 0 [])) = true → -100 ≤ sgV (ws.getD 0 []) ∧ sgV (ws.getD 0 []) ≤ 100 := fun h => by unfold in100 at h; simpa using h
  have hI2 : in100 (sgV (ws.getD 1 [])) = true → -100 ≤ sgV (ws.getD 1 []) ∧ sgV (ws.getD 1 []) ≤ 100 := fun h => by unfold in100 at h; simpa using h
  have H1 := Lib.hid hI1
  have H2 := Lib.hid hI2
  rw [h3] at hO8
  clear hO8 hI1 hI2 hwl
  rw [h3] at hc81 ⊢
  generalize in100 (sgV (ws.getD 0 [])) = d3 at *
  generalize in100 (sgV (ws.getD 1 [])) = d4 at *
  generalize sgV (ws.getD 0 []) = x at *
  generalize sgV (ws.getD 1 []) = y at *
  generalize numB (ws.getD 2 []) = r at *
  generalize numC (ws.getD 2 []) = cd at *
  generalize sgB (ws.getD 0 []) = d1 at *
  generalize sgB (ws.getD 1 []) = d2 at *
  generalize (ws.getD 0 []).toArray = s0 at *
  generalize (ws.getD 1 []).toArray = s1 at *
  generalize (ws.getD 2 []).toArray = s2 at *
  go_upto_region 7 with (first | (go_at_call 34; first | (refine (n0 _).mono ?_; rintro e w' ⟨rfl, hw⟩; rw [hw]; clear hw w' n0) | (refine (n1 _).mono ?_; rintro e w' ⟨rfl, hw⟩; rw [hw]; clear hw w' n1)) | (go_at_call 35; refine (n2 _).mono ?_; rintro e w' ⟨rfl, qq, hw⟩; rw [hw]; clear hw w'))
  have hR := hR.drewN qq
  have hbw := below_drewN hbw qq
  have hw2 : w.heap.size + 1 ≤ (w2.drewN qq).heap.size := hw2
  generalize w2.drewN qq = W2 at *
  clear c0 c1 c2 n2 l8 hzw2 hg8
  have hcases : (d1 = false) ∨ (d1 = true ∧ d2 = false) ∨ (d1 = true ∧ d2 = true ∧ d3 = false) ∨ (d1 = true ∧ d2 = true ∧ d3 = true ∧ d4 = false) ∨ (d1 = true ∧ d2 = true ∧ d3 = true ∧ d4 = true ∧ ¬ cd = 0) ∨ (d1 = true ∧ d2 = true ∧ d3 = true ∧ d4 = true ∧ cd = 0) := by
    by_cases hcd : cd = 0 <;> cases d1 <;> cases d2 <;> cases d3 <;> cases d4 <;> simp [hcd]
  rcases hcases with rfl | ⟨rfl, rfl⟩ | ⟨rfl, rfl, rfl⟩ | ⟨rfl, rfl, rfl, rfl⟩ | ⟨rfl, rfl, rfl, rfl, i0⟩ | ⟨rfl, rfl, rfl, rfl, rfl⟩
  rotate_left 5
  · have hok : okL ws = plain r := by rw [hokb]; simp
    have HK := Lib.hid hok
    obtain ⟨x1, x2⟩ := H1.out rfl
    obtain ⟨y1, y2⟩ := H2.out rfl
    have wx : IntKind.i8.wrap x = x := wrap8s _ (by omega)
    have wy : IntKind.i8.wrap y = y := wrap8s _ (by omega)
    have hk := fun w' => l03Ok_any x y r ⟨x1, x2⟩ ⟨y1, y2⟩ w'
    clear hokb hok
    go_upto_region 10 with (go_at_call 36; first | (refine (p1 _).mono ?_; rintro e w' ⟨rfl, hw⟩; rw [hw]; clear hw w' p1) | (refine (p2 _).mono ?_; rintro e w' ⟨rfl, hw⟩; rw [hw]; clear hw w' p2))
    have hY := Blk.new W2 #[.int .i8 x, .int .i8 y, .float .f32 r] 41
    have hR := hR.alloc (.cells #[.int .i8 x, .int .i8 y, .float .f32 r] 41)
    have hbw := hbw.alloc (by omega) (.cells #[.int .i8 x, .int .i8 y, .float .f32 r] 41)
    have hw3 : w.heap.size + 1 ≤ (W2.alloc (.cells #[.int .i8 x, .int .i8 y, .float .f32 r] 41)).heap.size := by simp; omega
    generalize W2.alloc (.cells #[.int .i8 x, .int .i8 y, .float .f32 r] 41) = W3 at *
    have l_q := hY.lt
    generalize W2.heap.size = q at *
    generalize plain r = bb at *
    refine wp_splitK 3 (C := fun w' => Below W3.heap.size W3 w') (R := fun w w' => Below w.heap.size w w') (F := fun _ dd vv => match dd, vv with
      | 66, vv => vv = .agg (#[.int .i8 x, .int .i8 y, .float .f32 r])
      | 67, vv => vv = .agg (#[.int .i8 x, .int .i8 y, .float .f32 r])
      | 68, vv => vv = .bool bb
      | _, _ => True) (fun _ _ _ _ _ h => h) (by kernel_rfl) (by kernel_rfl) (by kernel_rfl) (Below.refl _ _).drew ?_ ?_
    · refine ⟨step_go rfl fun ev w1 hC kn => ?_, ?_⟩
      · have e1 : ev (.tmp 11) = .pointer (some ⟨q, 0, none⟩) := kn.out 11 rfl rfl rfl
        exact good_of (v := .agg (#[.int .i8 x, .int .i8 y, .float .f32 r])) rfl (load_blk e1 rowWl (hY.below hC l_q) rfl) hC (Below.refl _ _) rfl
      refine ⟨step_go rfl fun ev w1 hC kn => ?_, ?_⟩
      · have e1 : ev (.tmp 11) = .pointer (some ⟨q, 0, none⟩) := kn.out 11 rfl rfl rfl
        exact good_of (v := .agg (#[.int .i8 x, .int .i8 y, .float .f32 r])) rfl (load_blk e1 rowWl (hY.below hC l_q) rfl) hC (Below.refl _ _) rfl
      refine ⟨step_go rfl fun ev w1 hC kn => ?_, ?_⟩
      · have e1 : ev (.tmp 67) = .agg (#[.int .i8 x, .int .i8 y, .float .f32 r]) := kn.inn 67 rfl rfl
        refine good_call (f := 37) (args := #[.agg (#[.int .i8 x, .int .i8 y, .float .f32 r])]) rfl (by simp [execOp, e1, kn.fn, kn.con, go_sem]) ((hk w1).mono fun e w2 ⟨he, hb⟩ => ⟨_, he, hC.trans (hb.mono hC.size), hb, rfl⟩)
      exact trivial
    rintro xv w1 hxv hC
    have y66 : xv 66 = .agg (#[.int .i8 x, .int .i8 y, .float .f32 r]) := hxv 66 (by decide)
    have y67 : xv 67 = .agg (#[.int .i8 x, .int .i8 y, .float .f32 r]) := hxv 67 (by decide)
    have y68 : xv 68 = .bool bb := hxv 68 (by decide)
    simp only [fill, dstsOf, List.filterMap_cons, List.filterMap_nil, List.foldl_cons, List.foldl_nil, List.set_cons_succ, List.set_cons_zero, List.take_succ_cons, List.take_zero, List.drop_succ_cons, List.drop_zero, y66, y67, y68]
    clear hxv y66 y67 y68
    have hR := hR.below hC (by omega)
    have hbw := hbw.trans (hC.mono (by omega))
    go_wp2_with (refine wpList_store_blk (C' := #[.int .i8 x, .int .i8 y, .float .f32 r]) rfl rfl rfl rfl rowWl hR rfl rfl (by intro u hu; simp at hu; rcases hu with rfl | rfl | rfl <;> rfl) ?_)
    refine bodyPost_row2 rfl rfl rowWl (hR.setRow _) rfl rfl ?_
    exact ⟨_, _, _, _, rfl, fun _ => HPW.out, by rw [HOK.out, HK.out], below_setRow hbw (Nat.le_refl _) _⟩
  all_goals (
    have hbadB : okL ws = false := by
      rw [hokb]
      first | rfl | (simp [i0])
    have hno : ¬ okLW ws := fun h => by
      have q2 := HOK.out.1 h
      rw [hbadB] at q2
      cases q2
    clear hokb hbadB
    go_wp2_with (first | (go_at_call 36; first | (refine (p1 _).mono ?_; rintro e w' ⟨rfl, hw⟩; rw [hw]; clear hw w' p1) | (refine (p2 _).mono ?_; rintro e w' ⟨rfl, hw⟩; rw [hw]; clear hw w' p2)) | (refine wpList_store_blk (C' := #[.int .i8 0, .int .i8 0, .float .f32 0]) rfl rfl rfl rfl rowWl hR rfl rfl (by decide) ?_))
    refine bodyPost_row2 rfl rfl rowWl (hR.setRow _) rfl rfl ?_
    exact ⟨_, _, _, _, rfl, fun h => (by cases h), ⟨fun h => (by cases h), fun h => absurd h hno⟩, below_setRow hbw (Nat.le_refl _) _⟩)
set_option maxRecDepth 100000 in
set_option maxHeartbeats 4000000 in
theorem readWellsS_any (s : ByteArray) (hs : s.size ≤ 1048576) (w : World) :
    Calls Tryz.prog 5 #[.string s] w fun e w' => ∃ v, e = .returned (.tuple #[v, .int .i64 (wlC s.data.toList)]) ∧ ∃ r, w.heap.size ≤ r ∧ ResW w' r v (wlM s.data.toList) (rdL s.data.toList) ∧ Below w.heap.size w w' := by
  have hsp := l01Split_any s 10 hs w
  have hsp : Calls Tryz.prog 13 #[.string s, .int .u8 10] w fun e w' => ∃ v g, e = .returned v ∧ Own w' g 9 1 v (splitL 10 s.data.toList).length (strs (splitL 10 s.data.toList)) ∧ w.heap.size ≤ g ∧ Below w.heap.size w w' := hsp
  have hll : s.data.toList.length = s.size := rfl
  generalize s.data.toList = l at *
  have hpos := List.length_pos_iff.2 (splitL_ne 10 l)
  have hlen := splitL_length 10 l
  obtain ⟨n, hn⟩ : ∃ n, rdN l = n := ⟨_, rfl⟩
  have hN : (splitL 10 l).length = n + 1 := by rw [← hn]; unfold rdN; omega
  have hn20 : n ≤ 1048576 := by omega
  have hG := goodWl_iff l
  rw [hn] at hG
  have hlast : (strs (splitL 10 l))[n]? = some (.string ⟨((splitL 10 l).getD n [0]).toArray⟩) := by
    apply strs_get; rw [List.getD_eq_getElem?_getD, List.getElem?_eq_getElem (by omega)]; rfl
  have hline := fun i (h : i < n) => strs_getD (L := splitL 10 l) (i := i) (by omega)
  have hll2 := fun i => splitL_get_le 10 l i
  have HLL := Lib.hid hll2
  have HLI := Lib.hid hline
  have HG := Lib.hid hG
  rw [hN] at hsp
  have HN0 := Lib.hid hn
  clear hpos hlen hll2 hline hG hn
  go_enter Tryz.func5, Tryz.ntmps5
  go_upto_region 2 with (go_at_call 13; refine hsp.mono ?_; rintro e w1 ⟨v4, g4, rfl, hO4, hg4, hb4⟩)
  clear hsp
  obtain ⟨cap4, rfl, hc41, hc42⟩ := hO4.form
  unfold maxLen at hc42
  have cl := (hO4.cell n (by omega)).trans hlast
  have bn : (0 : Int) ≤ n := by omega
  have bn2 : (n : Int) < (n : Int) + 1 := by omega
  clear hlast
  have hz : w.heap.size ≤ w1.heap.size := hb4.size
  by_cases he : (splitL 10 l).getD n [0] = []
  rotate_left
  · have hE : (⟨((splitL 10 l).getD n [0]).toArray⟩ : ByteArray).toList.isEmpty = false := by
      rw [ByteArray.toList_mk]
      generalize (splitL 10 l).getD n [0] = T at *
      cases T with
      | nil => exact absurd rfl he
      | cons _ _ => rfl
    have HBD := Lib.hid (wl_bad (fun q => he (HG.out.1 q).1))
    clear he
    generalize ((splitL 10 l).getD n [0]).toArray = T at *
    go_wp2_with fail
    go_ret2
    exact ⟨_, congrArg (fun x => Ending.returned (.tuple #[_, .int .i64 x])) HBD.out.1.symm, _, Nat.le_refl _, by rw [HBD.out.2]; exact .inl ⟨rfl, _, _, rfl, by decide⟩, hb4.alloc hb4.size _⟩
  have hE : (⟨((splitL 10 l).getD n [0]).toArray⟩ : ByteArray).toList.isEmpty = true := by
    rw [ByteArray.toList_mk, he]; rfl
  have HE := Lib.hid he
  clear he
  generalize ((splitL 10 l).getD n [0]).toArray = T at *
  by_cases h40 : n ≤ 12
  rotate_left
  · have i40 : (12 : Int) < n := by omega
    have HBD := Lib.hid (wl_bad (fun q => h40 (HG.out.1 q).2.2))
    clear h40
    go_wp2_with fail
    go_ret2
    exact ⟨_, congrArg (fun x => Ending.returned (.tuple #[_, .int .i64 x])) HBD.out.1.symm, _, Nat.le_refl _, by rw [HBD.out.2]; exact .inl ⟨rfl, _, _, rfl, by decide⟩, hb4.alloc hb4.size _⟩
  have i40 : ¬ (12 : Int) < n := by omega
  go_upto_region 6 with fail
  have hO : Own (w1.alloc (.cells #[] 41)) w1.heap.size 41 3 (.slice (some ⟨w1.heap.size, 0, none⟩) 0 0) 0 (wls 0 (rdL l)) := by rw [wls_zero]; exact own_blk (Blk.new _ _ _) rfl (by decide) rfl
  have l4 := hO4.lt
  have hO4 := hO4.alloc (.cells #[] 41)
  have hbel := hb4.alloc hb4.size (.cells #[] 41)
  have hqW : w1.heap.size ≤ (w1.alloc (.cells #[] 41)).heap.size := by simp
  generalize w1.alloc (.cells #[] 41) = W at *
  generalize w1.heap.size = q1 at *
  have HO4 := Lib.hid hO4
  clear hO4 hb4 hE cl
  go_upto_region 7 with fail
  go_loopw [6, 7] (fun vl vi wr => ∃ (k : Nat), vi = .int .i64 k ∧ k ≤ n ∧ q1 ≤ wr.heap.size ∧ Below q1 W wr ∧ Below w.heap.size w wr ∧ Hid (∀ j, j < k → okLW (wordsAt l j)) ∧ ∃ g, Own wr g 41 3 vl k (wls k (rdL l)) ∧ q1 ≤ g) (fun _ vi _ => n - (intOf vi).toNat)
  case atStart => exact ⟨0, rfl, by omega, hqW, Below.refl _ _, hbel, Lib.hid fun j hj => absurd hj (by omega), _, hO, Nat.le_refl _⟩
  case round =>
    obtain ⟨k, rfl, hk, hq, hbW, hbw, hok, g, hO, hg⟩ := hrel
    have bk : (0 : Int) ≤ k := by omega
    have hO4 := HO4.out.below hbW l4
    by_cases hlt : k < n
    · have hline := HLI.out k hlt
      have cl := (hO4.cell k (by omega)).trans hline
      have lO4 := hO4.lt
      have bl : (k : Int) < n := by omega
      have bl2 : (k : Int) < (n : Int) + 1 := by omega
      have hsl := HLL.out k
      have hrd := fun w' => l03Read_any ⟨((splitL 10 l).getD k []).toArray⟩ (by rw [size_of]; omega) w'
      rw [show (⟨((splitL 10 l).getD k []).toArray⟩ : ByteArray).data.toList = (splitL 10 l).getD k [] by simp] at hrd
      have hrd : ∀ w', Calls Tryz.prog 14 #[.string ⟨((splitL 10 l).getD k []).toArray⟩] w' fun e w'' => ∃ x y r b, e = .returned (.tuple #[.agg #[.int .i8 x, .int .i8 y, .float .f32 r], .bool b]) ∧ (b = true → rdL l k = ⟨x, y, r⟩) ∧ (b = true ↔ okLW (wordsAt l k)) ∧ Below w'.heap.size w' w'' := hrd
      have HGK : Hid (¬ okLW (wordsAt l k) → ¬ goodWl l) := Lib.hid fun h q => h ((HG.out.1 q).2.1 k hlt)
      have HPL := Lib.hid (wls_succ k (rdL l))
      clear hline hsl
      generalize ((splitL 10 l).getD k []).toArray = LT at *
      go_upto_region 10 with (go_at_call 14; refine (hrd _).mono ?_; rintro e w2 ⟨x, y, r, b, rfl, hbx, hby, hb8⟩)
      have hbW := hbW.trans (hb8.mono hq)
      have hbw := hbw.trans (hb8.mono hbw.size)
      have hO := hO.below hb8 hO.lt
      have hq : q1 ≤ w2.heap.size := Nat.le_trans hq hb8.size
      have HBX := Lib.hid (And.intro hbx hby)
      clear hb8 hrd hO4 cl hbx hby
      have hX := Blk.new w2 #[.int .i8 x, .int .i8 y, .float .f32 r] 41
      have hO := hO.alloc (.cells #[.int .i8 x, .int .i8 y, .float .f32 r] 41)
      have hbW := hbW.alloc hq (.cells #[.int .i8 x, .int .i8 y, .float .f32 r] 41)
      have hbw := hbw.alloc hbw.size (.cells #[.int .i8 x, .int .i8 y, .float .f32 r] 41)
      have hq3 : q1 ≤ (w2.alloc (.cells #[.int .i8 x, .int .i8 y, .float .f32 r] 41)).heap.size := by simp; omega
      generalize w2.alloc (.cells #[.int .i8 x, .int .i8 y, .float .f32 r] 41) = W3 at *
      generalize w2.heap.size = q2 at *
      cases b
      · have HBD := Lib.hid (wl_bad (HGK.out fun q => by have := HBX.out.2.2 q; cases this))
        clear hX
        go_wp2_with fail
        go_ret2
        exact ⟨_, congrArg (fun x => Ending.returned (.tuple #[_, .int .i64 x])) HBD.out.1.symm, _, Nat.le_refl _, by rw [HBD.out.2]; exact .inl ⟨rfl, _, _, rfl, by decide⟩, hbw.alloc hbw.size _⟩
      · have HOKS : Hid (∀ j, j < k + 1 → okLW (wordsAt l j)) := Lib.hid fun j hj => by
          by_cases hjk : j < k
          · exact hok.out j hjk
          · obtain rfl : j = k := by omega
            exact HBX.out.2.1 rfl
        go_wp2_with (first | (refine wpList_load_blk rfl rfl rfl rowWl hX rfl ?_) | (at_builtin; refine wpList_app elWl rfl rfl rfl rfl (by decide) (hO.alloc _) (Blk.new _ _ _) rfl ?_ ?_ ?_ ?_; (· intro u hu; simp at hu; rcases hu with rfl | rfl | rfl <;> rfl); (· unfold maxLen; omega); (· omega); intro v1 w3 g1 hown hgr hg1))
        have hb3 := (hbw.alloc hbw.size (.cells #[.int .i8 x, .int .i8 y, .float .f32 r] 41)).grown hgr (by have := hbw.size; simp; omega) (fun q hq => by injection hq with hq; omega)
        have hb3W := (hbW.alloc hq3 (.cells #[.int .i8 x, .int .i8 y, .float .f32 r] 41)).grown hgr (by simp; omega) (fun q hq => by injection hq with hq; omega)
        have hsz3 := hgr.size
        rw [World.size_alloc] at hsz3
        go_roundw
        case rel =>
          refine ⟨k + 1, by go_num, by omega, ?_, hb3W, hb3, HOKS, g1, ?_, ?_⟩
          · omega
          · rw [HPL.out, HBX.out.1 rfl, Wl.cells_eq]; exact hown
          · simp at hg1; omega
        case measure => simp [intOf]; omega
    · obtain rfl : k = n := by omega
      obtain ⟨cp, rfl, hcp1, hcp2⟩ := hO.form
      have HGD := Lib.hid (wl_good (l := l) (HG.out.2 ⟨HE.out, hok.out, h40⟩))
      clear hok
      go_wp2_with fail
      go_ret2
      exact ⟨_, congrArg (fun x => Ending.returned (.tuple #[_, .int .i64 x])) HGD.out.1.symm, _, Nat.le_trans hz hg, by rw [HGD.out.2, HN0.out]; exact .inr hO, hbw⟩
end Go.Proofs.YtcojgmgoiopboaaGreatDoor
