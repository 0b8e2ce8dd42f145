import Derived.Test.YtcojgmgoiopboaaGreatDoorMR24
import Derived.Test.YtcojgmgoiopboaaGreatDoorMR20
import Derived.Test.YtcojgmgoiopboaaGreatDoorMR05
import Derived.Test.YtcojgmgoiopboaaGreatDoorMR08
/- ReadGround, in the reference: the walk. -/
namespace Go.Proofs.YtcojgmgoiopboaaGreatDoor
open Go.ChangeShapes Go.WideShapes Go.ChangeAt Go.RowKit
set_option linter.unusedVariables false
set_option linter.unusedSimpArgs false
attribute [local irreducible] Calls

theorem wrap8g (n : Int) (h : 0 ≤ n ∧ n ≤ 8) : IntKind.i8.wrap n = n := wrap8 n (by omega)
theorem str_eqb (a b : List UInt8) : ((⟨a.toArray⟩ : ByteArray).toList == b) = decide (a = b) := by
  rw [ByteArray.toList_mk, Bool.beq_eq_decide_eq]
theorem l01ReadX (l : List UInt8) (hs : l.length ≤ 1048576) (w : World) :
    Calls Tryz.prog 25 #[.string ⟨l.toArray⟩] w fun e w' => ∃ x q, e = .returned (.tuple #[.float .f32 x, .bool (numL l).isSome]) ∧ ((numL l).isSome = true → x = numB l) ∧ w' = w.drewN q := by
  have h := l01Read_any ⟨l.toArray⟩ (by rw [size_of]; exact hs) w
  rw [show (⟨l.toArray⟩ : ByteArray).data.toList = l by simp] at h
  refine h.mono ?_
  rintro e w' ⟨⟨x, rfl, hx⟩, q, rfl⟩
  exact ⟨x, q, rfl, fun hh => hx (fun hn => by rw [hn] at hh; cases hh), rfl⟩
theorem numC_some {l : List UInt8} : numC l = 0 ↔ (numL l).isSome = true := by
  unfold numC
  cases (numL l).isSome <;> simp
set_option maxRecDepth 100000 in
set_option maxHeartbeats 8000000 in
theorem readGroundS_any (s : ByteArray) (hs : s.size ≤ 1048576) (w : World) :
    Calls Tryz.prog 10 #[.string s] w fun e w' => ∃ G c, e = .returned (.tuple #[.agg (Gr.cells G), .int .i64 c]) ∧ ((SpecG s.data.toList ∧ G = gdR s.data.toList ∧ c = 0) ∨ (¬ SpecG s.data.toList ∧ G = zeroGr ∧ c = 5)) ∧ Below w.heap.size w w' := by
  have hsp : ∀ w', Calls Tryz.prog 13 #[.string s, .int .u8 10] w' fun e w'' => ∃ v g, e = .returned v ∧ Own w'' g 9 1 v (splitL 10 s.data.toList).length (strs (splitL 10 s.data.toList)) ∧ w'.heap.size ≤ g ∧ Below w'.heap.size w' w'' := fun w' => l01Split_any s 10 hs w'
  have hll : s.data.toList.length = s.size := rfl
  generalize s.data.toList = l at *
  have hpos := List.length_pos_iff.2 (splitL_ne 10 l)
  have hlen := splitL_length 10 l
  have hll2 := fun i => Nat.le_trans (splitL_get_le 10 l i) (show l.length ≤ 1048576 by omega)
  have HLL := Lib.hid hll2
  have hstr := fun i (h : i < (splitL 10 l).length) => strs_getD (L := splitL 10 l) (i := i) h
  have HSTR := Lib.hid hstr
  obtain ⟨n, hn⟩ : ∃ n, (splitL 10 l).length = n := ⟨_, rfl⟩
  rw [hn] at hsp hpos hlen
  have HN := Lib.hid hn
  clear hll2 hn hstr
  go_enter Tryz.func10, Tryz.ntmps10
  go_upto_region 1 with (refine wpList_alloc_as rfl rfl zero66 ?_)
  have hR := Blk.new w zeroGr.cells 34
  have hbel := below1 w (.cells zeroGr.cells 34)
  change Code.wp _ _ _ _ (w.alloc (.cells zeroGr.cells 34))
  have HZ : Hid ((w.alloc (.cells zeroGr.cells 34)).heap.size = w.heap.size + 1) := Lib.hid (World.size_alloc _ _)
  generalize w.alloc (.cells zeroGr.cells 34) = W at *
  go_upto_region 2 with (go_at_call 13; refine (hsp _).mono ?_; rintro e w1 ⟨v4, g4, rfl, hO4, hg4, hb4⟩)
  clear hsp
  obtain ⟨cap4, cur4, rfl, hc41, hc42, hB4, hcur4⟩ := own_cur hO4
  unfold maxLen at hc42
  have HCUR : Hid (∀ j, j < n → cur4[j]? = some (.string ⟨((splitL 10 l).getD j []).toArray⟩)) := Lib.hid fun j hj => (hcur4 j hj).trans (HSTR.out j (by rw [HN.out]; exact hj))
  have hz1 := HZ.out
  have hR := hR.below hb4 (by omega)
  have hbw := hbel.trans (hb4.mono (by omega))
  have hq0 : w.heap.size < w1.heap.size := by have := hb4.size; omega
  have hg4q : w.heap.size < g4 := by omega
  clear hO4 hcur4 hb4 hbel hz1 hg4
  have c0 := (hB4.cell 0).trans (HCUR.out 0 hpos)
  have hsp : ∀ w', Calls Tryz.prog 13 #[.string ⟨((splitL 10 l).getD 0 []).toArray⟩, .int .u8 32] w' fun e w'' => ∃ v g, e = .returned v ∧ Own w'' g 9 1 v (firstG l).length (strs (firstG l)) ∧ w'.heap.size ≤ g ∧ Below w'.heap.size w' w'' := fun w' => by
    have h := l01Split_any ⟨((splitL 10 l).getD 0 []).toArray⟩ 32 (by rw [size_of]; exact HLL.out 0) w'
    rw [show (⟨((splitL 10 l).getD 0 []).toArray⟩ : ByteArray).data.toList = (splitL 10 l).getD 0 [] by simp] at h
    exact h
  go_upto_region 3 with (go_at_call 13; refine (hsp _).mono ?_; rintro e w2 ⟨v5, g5, rfl, hO5, hg5, hb5⟩)
  clear hsp c0
  have hR := hR.below hb5 hq0
  have hB4 := hB4.below hb5 hB4.lt
  have hbw := hbw.trans (hb5.mono (by omega))
  have hz := hb5.size
  have hq0 : w.heap.size < w2.heap.size := by omega
  have hFL : (firstG l).length ≤ 1048577 := by
    have := splitL_length 32 ((splitL 10 l).getD 0 [])
    have h2 := HLL.out 0
    unfold firstG; omega
  have hstr5 := fun i (h : i < (firstG l).length) => strs_getD (L := firstG l) (i := i) h
  have hfle := fun i => Nat.le_trans (splitL_get_le 32 ((splitL 10 l).getD 0 []) i) (HLL.out 0)
  have hfle : ∀ i, ((firstG l).getD i []).length ≤ 1048576 := hfle
  obtain ⟨f, hf⟩ : ∃ f, (firstG l).length = f := ⟨_, rfl⟩
  have HF := Lib.hid hf
  rw [hf] at hO5 hFL
  obtain ⟨cap5, cur5, rfl, hc51, hc52, hB5, hcur5⟩ := own_cur hO5
  unfold maxLen at hc52
  have HC5 : Hid (∀ j, j < f → cur5[j]? = some (.string ⟨((firstG l).getD j []).toArray⟩)) := Lib.hid fun j hj => (hcur5 j hj).trans (hstr5 j (by omega))
  have HFLE := Lib.hid hfle
  have hg5q : w.heap.size < g5 := by omega
  clear hO5 hcur5 hb5 hg5 hf hstr5 hfle hz
  by_cases h2 : f = 2
  rotate_left
  · have b2 : ¬ ((f : Nat) : Int) = 2 := by omega
    have HNO : Hid (¬ SpecG l) := Lib.hid fun q => h2 (by rw [← HF.out]; exact q.two)
    clear h2
    go_wp2_with (refine wpList_store_blk (C' := Tryz.zeroCells34) rfl rfl rfl rfl row66 hR zeroGr.size zc_size zc_one ?_)
    refine bodyPost_row2 rfl rfl row66 (hR.setRow _) zc_size rfl ?_
    exact ⟨zeroGr, 5, by rw [← zeroCells_gr]; rfl, .inr ⟨HNO.out, rfl, rfl⟩, below_setRow hbw (Nat.le_refl _) _⟩
  subst h2
  obtain ⟨n', rfl⟩ : ∃ n', n = n' + 1 := ⟨n - 1, by omega⟩
  have cl := (hB4.cell n').trans (HCUR.out n' (by omega))
  by_cases he : (splitL 10 l).getD n' [] = []
  rotate_left
  · have hE : (⟨((splitL 10 l).getD n' []).toArray⟩ : ByteArray).toList.isEmpty = false := by
      rw [ByteArray.toList_mk]
      generalize (splitL 10 l).getD n' [] = T at *
      cases T with
      | nil => exact absurd rfl he
      | cons _ _ => rfl
    have HNO : Hid (¬ SpecG l) := Lib.hid fun q => by
      have h1 := q.last
      have h2 := q.count
      rw [HN.out] at h2
      have h3 : (cellsTo (gd0 l) 64).length + 1 = n' := by omega
      rw [h3] at h1
      apply he
      rw [List.getD_eq_getElem?_getD, List.getElem?_eq_getElem (by rw [HN.out]; omega)] at h1 ⊢
      exact h1
    clear he
    generalize ((splitL 10 l).getD n' []).toArray = T at *
    go_wp2_with (refine wpList_store_blk (C' := Tryz.zeroCells34) rfl rfl rfl rfl row66 hR zeroGr.size zc_size zc_one ?_)
    refine bodyPost_row2 rfl rfl row66 (hR.setRow _) zc_size rfl ?_
    exact ⟨zeroGr, 5, by rw [← zeroCells_gr]; rfl, .inr ⟨HNO.out, rfl, rfl⟩, below_setRow hbw (Nat.le_refl _) _⟩
  have hE : (⟨((splitL 10 l).getD n' []).toArray⟩ : ByteArray).toList.isEmpty = true := by
    rw [ByteArray.toList_mk, he]; rfl
  have HE := Lib.hid he
  clear he
  generalize ((splitL 10 l).getD n' []).toArray = T at *
  have d0 := (hB5.cell 0).trans (HC5.out 0 (by omega))
  have d1 := (hB5.cell 1).trans (HC5.out 1 (by omega))
  have n0 := fun w' => l01Number_any ⟨((firstG l).getD 0 []).toArray⟩ (by rw [size_of]; exact HFLE.out 0) w'
  have n1 := fun w' => l01Number_any ⟨((firstG l).getD 1 []).toArray⟩ (by rw [size_of]; exact HFLE.out 1) w'
  rw [show (⟨((firstG l).getD 0 []).toArray⟩ : ByteArray).data.toList = (firstG l).getD 0 [] by simp] at n0
  rw [show (⟨((firstG l).getD 1 []).toArray⟩ : ByteArray).data.toList = (firstG l).getD 1 [] by simp] at n1
  have hx := decN_bd ((firstG l).getD 0 [])
  have hy := decN_bd ((firstG l).getD 1 [])
  have hgd : gd0 l = ⟨(((decN ((firstG l).getD 0 [])).getD 0 : Nat) : Int), (((decN ((firstG l).getD 1 [])).getD 0 : Nat) : Int), fun _ => 0, fun _ => 0, fun _ => 0, 0⟩ := rfl
  have hW : SpecG l → (decN ((firstG l).getD 0 [])).isSome = true ∧ (decN ((firstG l).getD 1 [])).isSome = true := fun q => ⟨q.wide, q.high⟩
  have hSP : ∀ q0 : (decN ((firstG l).getD 0 [])).isSome = true, ∀ q1 : (decN ((firstG l).getD 1 [])).isSome = true, (2 ≤ (gd0 l).wide ∧ (gd0 l).wide ≤ 8) → (2 ≤ (gd0 l).high ∧ (gd0 l).high ≤ 8) → n' = (cellsTo (gd0 l) 64).length + 1 → (∀ k, k < 64 → isC (gd0 l) k = true → okRow (wdG l k)) → validG (gdR l) = true → SpecG l := fun q0 q1 a b c r v => ⟨HF.out, q0, q1, a, b, by rw [HN.out, c], by rw [← c, List.getD_eq_getElem?_getD, List.getElem?_eq_getElem (by rw [HN.out]; omega)]; have := HE.out; rw [List.getD_eq_getElem?_getD, List.getElem?_eq_getElem (by rw [HN.out]; omega)] at this; exact this, r, v⟩
  have HW := Lib.hid hW
  have HSP := Lib.hid hSP
  clear hW hSP
  generalize (decN ((firstG l).getD 0 [])).getD 0 = x at *
  generalize (decN ((firstG l).getD 1 [])).getD 0 = y at *
  generalize (decN ((firstG l).getD 0 [])).isSome = bx at *
  generalize (decN ((firstG l).getD 1 [])).isSome = bY at *
  generalize ((firstG l).getD 0 []).toArray = s0 at *
  generalize ((firstG l).getD 1 []).toArray = s1 at *
  go_upto_region 7 with (go_at_call 22; first | (refine (n0 _).mono ?_; rintro e w' ⟨rfl, hw⟩; rw [hw]; clear hw w' n0) | (refine (n1 _).mono ?_; rintro e w' ⟨rfl, hw⟩; rw [hw]; clear hw w' n1))
  clear d0 d1 cl hE hB5
  have hin := fun n w' => l00In_any n 2 8 w'
  have HGD := Lib.hid hgd
  clear hgd
  have hcases : (bx = false) ∨ (bx = true ∧ bY = false) ∨ (bx = true ∧ bY = true ∧ ¬ (2 ≤ x ∧ x ≤ 8)) ∨ (bx = true ∧ bY = true ∧ (2 ≤ x ∧ x ≤ 8) ∧ ¬ (2 ≤ y ∧ y ≤ 8)) ∨ (bx = true ∧ bY = true ∧ (2 ≤ x ∧ x ≤ 8) ∧ (2 ≤ y ∧ y ≤ 8) ∧ ¬ n' + 1 = x * y + 2) ∨ (bx = true ∧ bY = true ∧ (2 ≤ x ∧ x ≤ 8) ∧ (2 ≤ y ∧ y ≤ 8) ∧ n' + 1 = x * y + 2) := by
    by_cases c1 : (2 ≤ x ∧ x ≤ 8) <;> by_cases c2 : (2 ≤ y ∧ y ≤ 8) <;> by_cases c3 : n' + 1 = x * y + 2 <;> cases bx <;> cases bY <;> (first | (simp [c1, c2, c3]; done) | (simp [c1, c2]; omega))
  have HCT : Hid (x ≤ 8 → y ≤ 8 → (cellsTo (gd0 l) 64).length = x * y) := Lib.hid fun a b => cellsTo_count (by rw [HGD.out]) (by rw [HGD.out]) a b
  rcases hcases with rfl | ⟨rfl, rfl⟩ | ⟨rfl, rfl, c1⟩ | ⟨rfl, rfl, c1, c2⟩ | ⟨rfl, rfl, c1, c2, c3⟩ | ⟨rfl, rfl, c1, c2, c3⟩
  · have HNO : Hid (¬ SpecG l) := Lib.hid fun q => by have := (HW.out q).1; cases this
    go_wp2_with (refine wpList_store_blk (C' := Tryz.zeroCells34) rfl rfl rfl rfl row66 hR zeroGr.size zc_size zc_one ?_)
    refine bodyPost_row2 rfl rfl row66 (hR.setRow _) zc_size rfl ?_
    exact ⟨zeroGr, 5, by rw [← zeroCells_gr]; rfl, .inr ⟨HNO.out, rfl, rfl⟩, below_setRow hbw (Nat.le_refl _) _⟩
  · have HNO : Hid (¬ SpecG l) := Lib.hid fun q => by have := (HW.out q).2; cases this
    go_wp2_with (refine wpList_store_blk (C' := Tryz.zeroCells34) rfl rfl rfl rfl row66 hR zeroGr.size zc_size zc_one ?_)
    refine bodyPost_row2 rfl rfl row66 (hR.setRow _) zc_size rfl ?_
    exact ⟨zeroGr, 5, by rw [← zeroCells_gr]; rfl, .inr ⟨HNO.out, rfl, rfl⟩, below_setRow hbw (Nat.le_refl _) _⟩
  · have HNO : Hid (¬ SpecG l) := Lib.hid fun q => by have h := q.wb; rw [HGD.out] at h; simp only at h; omega
    have hin := hin (x : Int)
    rw [show (decide ((2 : Int) ≤ (x : Int)) && decide ((x : Int) ≤ 8)) = false by simp; omega] at hin
    clear c1
    go_wp2_with (first | (refine wpList_store_blk (C' := Tryz.zeroCells34) rfl rfl rfl rfl row66 hR zeroGr.size zc_size zc_one ?_) | (go_at_call 23; refine (hin _).mono ?_; rintro e w' ⟨rfl, hw⟩; rw [hw]; clear hw w'))
    refine bodyPost_row2 rfl rfl row66 (hR.setRow _) zc_size rfl ?_
    exact ⟨zeroGr, 5, by rw [← zeroCells_gr]; rfl, .inr ⟨HNO.out, rfl, rfl⟩, below_setRow hbw (Nat.le_refl _) _⟩
  · have HNO : Hid (¬ SpecG l) := Lib.hid fun q => by have h := q.hb; rw [HGD.out] at h; simp only at h; omega
    have hin1 := hin (x : Int)
    have hin2 := hin (y : Int)
    rw [show (decide ((2 : Int) ≤ (x : Int)) && decide ((x : Int) ≤ 8)) = true by simp; omega] at hin1
    rw [show (decide ((2 : Int) ≤ (y : Int)) && decide ((y : Int) ≤ 8)) = false by simp; omega] at hin2
    clear c1 c2
    go_wp2_with (first | (refine wpList_store_blk (C' := Tryz.zeroCells34) rfl rfl rfl rfl row66 hR zeroGr.size zc_size zc_one ?_) | (go_at_call 23; first | (refine (hin1 _).mono ?_; rintro e w' ⟨rfl, hw⟩; rw [hw]; clear hw w' hin1) | (refine (hin2 _).mono ?_; rintro e w' ⟨rfl, hw⟩; rw [hw]; clear hw w')))
    refine bodyPost_row2 rfl rfl row66 (hR.setRow _) zc_size rfl ?_
    exact ⟨zeroGr, 5, by rw [← zeroCells_gr]; rfl, .inr ⟨HNO.out, rfl, rfl⟩, below_setRow hbw (Nat.le_refl _) _⟩
  · have HNO : Hid (¬ SpecG l) := Lib.hid fun q => by
      have h := q.count
      rw [HN.out, HCT.out c1.2 c2.2] at h
      omega
    have hin1 := hin (x : Int)
    have hin2 := hin (y : Int)
    rw [show (decide ((2 : Int) ≤ (x : Int)) && decide ((x : Int) ≤ 8)) = true by simp; omega] at hin1
    rw [show (decide ((2 : Int) ≤ (y : Int)) && decide ((y : Int) ≤ 8)) = true by simp; omega] at hin2
    obtain ⟨xy, hxy⟩ : ∃ xy, x * y = xy := ⟨_, rfl⟩
    have hxyb : xy ≤ 64 := by rw [← hxy]; exact Nat.le_trans (Nat.mul_le_mul c1.2 c2.2) (by decide)
    have hm1 : (x : Int) * (y : Int) = (xy : Int) := by rw [← hxy]; simp
    have hm : IntKind.i64.wrap ((x : Int) * (y : Int)) = (xy : Int) := by rw [hm1]; exact IntWalk.i64_in _ (by omega)
    rw [hxy] at c3
    have hne : ¬ ((n' : Int) + 1 = (xy : Int) + 2) := by omega
    clear c1 c2 c3 hxy HCT
    go_wp2_with (first | (refine wpList_store_blk (C' := Tryz.zeroCells34) rfl rfl rfl rfl row66 hR zeroGr.size zc_size zc_one ?_) | (go_at_call 23; first | (refine (hin1 _).mono ?_; rintro e w' ⟨rfl, hw⟩; rw [hw]; clear hw w' hin1) | (refine (hin2 _).mono ?_; rintro e w' ⟨rfl, hw⟩; rw [hw]; clear hw w')))
    refine bodyPost_row2 rfl rfl row66 (hR.setRow _) zc_size rfl ?_
    exact ⟨zeroGr, 5, by rw [← zeroCells_gr]; rfl, .inr ⟨HNO.out, rfl, rfl⟩, below_setRow hbw (Nat.le_refl _) _⟩
  have hin1 := hin (x : Int)
  have hin2 := hin (y : Int)
  rw [show (decide ((2 : Int) ≤ (x : Int)) && decide ((x : Int) ≤ 8)) = true by simp; omega] at hin1
  rw [show (decide ((2 : Int) ≤ (y : Int)) && decide ((y : Int) ≤ 8)) = true by simp; omega] at hin2
  obtain ⟨xy, hxy⟩ : ∃ xy, x * y = xy := ⟨_, rfl⟩
  have hxyb : xy ≤ 64 := by rw [← hxy]; exact Nat.le_trans (Nat.mul_le_mul c1.2 c2.2) (by decide)
  have hm1 : (x : Int) * (y : Int) = (xy : Int) := by rw [← hxy]; simp
  have hm : IntKind.i64.wrap ((x : Int) * (y : Int)) = (xy : Int) := by rw [hm1]; exact IntWalk.i64_in _ (by omega)
  rw [hxy] at c3
  have HCT := Lib.hid (HCT.out c1.2 c2.2)
  rw [hxy] at HCT
  obtain rfl : n' = xy + 1 := by omega
  have w8x : IntKind.i8.wrap (x : Int) = (x : Int) := wrap8 _ (by omega)
  have w8y : IntKind.i8.wrap (y : Int) = (y : Int) := wrap8 _ (by omega)
  have HSQ : Hid ((∀ k, k < 64 → isC (gd0 l) k = true → okRow (wdG l k)) → validG (gdR l) = true → SpecG l) := Lib.hid (HSP.out rfl rfl (by rw [HGD.out]; simp only; omega) (by rw [HGD.out]; simp only; omega) (by rw [HCT.out]))
  have hg0 : (gd0 l).ok := by rw [HGD.out]; exact ⟨by simp only; omega, by simp only; omega, by simp only; omega⟩
  have HG0 := Lib.hid hg0
  clear c1 c2 c3 hxy hg0 hx hy HW HSP
  go_upto_region 10 with (first | (go_at_call 23; first | (refine (hin1 _).mono ?_; rintro e w' ⟨rfl, hw⟩; rw [hw]; clear hw w' hin1) | (refine (hin2 _).mono ?_; rintro e w' ⟨rfl, hw⟩; rw [hw]; clear hw w')) | (refine wpList_alloc_as rfl rfl zero66 ?_) | (refine wpList_store_last rfl rfl rfl rfl rfl (by rw [builtGr, Gr.size]; kernel_rfl) (by rw [builtGr, Gr.size, Gr.size]) (by rw [builtGr]; exact List.all_eq_true.2 (Gr.one _)) ?_))
  have hB1 := Blk.new w2 ((Tryz.zeroCells34.setIfInBounds 0 (.int .i8 (x : Int))).setIfInBounds 1 (.int .i8 (y : Int))) 34
  rw [builtGr, ← HGD.out] at hB1 ⊢
  have hst : RG w (w2.alloc (.cells (gd0 l).cells 34)) w.heap.size w2.heap.size g4 g4 cur4 cur4 9 9 (gdT (gd0 l) l (cellsTo (gd0 l) 0)) := by
    rw [show cellsTo (gd0 l) 0 = [] from rfl, gdT_nil l rfl]
    exact ⟨hR.alloc _, hB1, hB4.alloc _, hB4.alloc _, hbw.alloc (by omega) _, ⟨Nat.le_refl _, hq0⟩, by have := hB4.lt; omega, by have := hB4.lt; omega⟩
  clear hB1 hR hB4 hbw hq0 hg4q hg5q hin hm1
  generalize w2.alloc (.cells (gd0 l).cells 34) = W3 at *
  generalize w2.heap.size = q1 at *
  go_wp2_with fail
  go_loopw [11, 12] (fun va vi wr => ∃ k r : Nat, k ≤ 64 ∧ Hid ((cellsTo (gd0 l) k).length = r) ∧ r ≤ xy ∧ va = .int .i64 ((r : Int) + 1) ∧ vi = .int .i64 k ∧ RG w wr w.heap.size q1 g4 g4 cur4 cur4 9 9 (gdT (gd0 l) l (cellsTo (gd0 l) k)) ∧ Hid (∀ j, j < k → isC (gd0 l) j = true → okRow (wdG l j))) (fun _ vi _ => 64 - (intOf vi).toNat)
  case atStart => exact ⟨0, 0, by omega, Lib.hid rfl, by omega, rfl, rfl, hst, Lib.hid fun j hj => absurd hj (by omega)⟩
  case round =>
    clear hst
    obtain ⟨k, r, hk, hr, hrx, rfl, rfl, hst, hrows⟩ := hrel
    have bk : (0 : Int) ≤ k := by omega
    by_cases hlt : k < 64
    · have bl : (k : Int) < 64 := by omega
      have his := l01Is_any _ q1 k (gdT_ok HG0.out l (cellsTo (gd0 l) k)) hlt wr hst.b1.gat
      rw [isC_gdT] at his
      cases hc : isC (gd0 l) k <;> rw [hc] at his
      · have HS : Hid (cellsTo (gd0 l) (k + 1) = cellsTo (gd0 l) k) := Lib.hid (by rw [cellsTo_succ, hc]; rfl)
        have HRW : Hid (∀ j, j < k + 1 → isC (gd0 l) j = true → okRow (wdG l j)) := Lib.hid fun j hj hcj => by
          by_cases e : j = k
          · subst e; rw [hc] at hcj; cases hcj
          · exact hrows.out j (by omega) hcj
        clear hc
        go_wp2_with (go_at_call 24; refine his.mono ?_; rintro e w' ⟨rfl, hw⟩; rw [hw]; clear hw w')
        go_roundw
        case rel => exact ⟨k + 1, r, by omega, Lib.hid (by rw [HS.out]; exact hr.out), hrx, rfl, by go_num, by rw [HS.out]; exact hst, HRW⟩
        case measure => simp [intOf]; omega
      · have HC := Lib.hid hc
        have hrlt : r < xy := by
          have h := (List.getElem?_eq_some_iff.1 (cellsTo_rank hc 64 hlt)).1
          rw [hr.out, HCT.out] at h
          exact h
        have HS : Hid (cellsTo (gd0 l) (k + 1) = cellsTo (gd0 l) k ++ [k]) := Lib.hid (by rw [cellsTo_succ, hc]; rfl)
        clear hc
        have cl := (hst.bA.cell (r + 1)).trans (HCUR.out (r + 1) (by omega))
        have hsp : ∀ w', Calls Tryz.prog 13 #[.string ⟨((splitL 10 l).getD (r + 1) []).toArray⟩, .int .u8 32] w' fun e w'' => ∃ v g, e = .returned v ∧ Own w'' g 9 1 v (wdG l k).length (strs (wdG l k)) ∧ w'.heap.size ≤ g ∧ Below w'.heap.size w' w'' := fun w' => by
          have h := l01Split_any ⟨((splitL 10 l).getD (r + 1) []).toArray⟩ 32 (by rw [size_of]; exact HLL.out (r + 1)) w'
          rw [show (⟨((splitL 10 l).getD (r + 1) []).toArray⟩ : ByteArray).data.toList = (splitL 10 l).getD (r + 1) [] by simp] at h
          unfold wdG
          rw [hr.out, Nat.add_comm 1 r]
          exact h
        have hwle : ∀ i, ((wdG l k).getD i []).length ≤ 1048576 := fun i => by
          unfold wdG
          exact Nat.le_trans (splitL_get_le 32 _ i) (HLL.out _)
        have hwl : (wdG l k).length ≤ 1048577 := by
          have := splitL_length 32 ((splitL 10 l).getD (1 + (cellsTo (gd0 l) k).length) [])
          have h2 := HLL.out (1 + (cellsTo (gd0 l) k).length)
          unfold wdG; omega
        have hmN : ∀ i, nmOf (gd0 l) l i k = numB ((wdG l k).getD i []) := fun i => rfl
        have hmF : fxOf (gd0 l) l k = decide ((wdG l k).getD 0 [] = [102, 105, 120, 101, 100]) := rfl
        have hSN := gdT_snoc (gd0 l) l (cellsTo (gd0 l) k) k
        rw [hmN, hmN, hmN, hmF] at hSN
        have hROK : okRow (wdG l k) → ∀ j, j < k + 1 → isC (gd0 l) j = true → okRow (wdG l j) := fun h j hj hcj => by
          by_cases e : j = k
          · subst e; exact h
          · exact hrows.out j (by omega) hcj
        have hBAD : ¬ okRow (wdG l k) → ¬ SpecG l := fun h => spec_bad hlt HC.out h
        have HROK := Lib.hid hROK
        have HBAD := Lib.hid hBAD
        have HSN := Lib.hid hSN
        clear hmN hmF hSN hROK hBAD
        generalize wdG l k = ws at *
        generalize hG0 : gdT (gd0 l) l (cellsTo (gd0 l) k) = G0 at *
        clear hG0
        have q1lt := hst.b1.lt
        have b4l := hst.bA.lt
        go_upto_region 17 with (first | (go_at_call 24; refine his.mono ?_; rintro e w' ⟨rfl, hw⟩; rw [hw]; clear hw w') | (go_at_call 13; refine (hsp _).mono ?_; rintro e w3 ⟨v13, g8, rfl, hO8, hg8, hb8⟩))
        clear hsp his cl
        replace hst := hst.below hb8
        have hstr8 := fun i (h : i < ws.length) => strs_getD (L := ws) (i := i) h
        obtain ⟨cap8, cur8, rfl, hc81, hc82, hB8, hcur8⟩ := own_cur hO8
        unfold maxLen at hc82
        have hg8q : g8 ≠ q1 := by omega
        have HWLE := Lib.hid hwle
        clear hb8 hO8 hg8 q1lt b4l hwle
        by_cases h4 : ws.length = 4
        rotate_left
        · have b4 : ¬ ((ws.length : Nat) : Int) = 4 := by omega
          have HNO : Hid (¬ SpecG l) := Lib.hid (HBAD.out fun q => h4 q.1)
          clear h4 hstr8 hcur8
          go_wp2_with (refine wpList_store_blk (C' := Tryz.zeroCells34) rfl rfl rfl rfl row66 hst.b0 zeroGr.size zc_size zc_one ?_)
          refine bodyPost_row2 rfl rfl row66 (hst.b0.setRow _) zc_size rfl ?_
          exact ⟨zeroGr, 5, by rw [← zeroCells_gr]; rfl, .inr ⟨HNO.out, rfl, rfl⟩, below_setRow hst.bel hst.le.1 _⟩
        have e0 := (hB8.cell 0).trans ((hcur8 0 (by omega)).trans (hstr8 0 (by omega)))
        have HE1 : Hid (cur8[1]? = some (.string ⟨(ws.getD 1 []).toArray⟩)) := Lib.hid ((hcur8 1 (by omega)).trans (hstr8 1 (by omega)))
        have HE2 : Hid (cur8[2]? = some (.string ⟨(ws.getD 2 []).toArray⟩)) := Lib.hid ((hcur8 2 (by omega)).trans (hstr8 2 (by omega)))
        have HE3 : Hid (cur8[3]? = some (.string ⟨(ws.getD 3 []).toArray⟩)) := Lib.hid ((hcur8 3 (by omega)).trans (hstr8 3 (by omega)))
        have HE0 : Hid (cur8[0]? = some (.string ⟨(ws.getD 0 []).toArray⟩)) := Lib.hid ((hcur8 0 (by omega)).trans (hstr8 0 (by omega)))
        have HR1 : Hid (∀ w', _) := Lib.hid fun w' => l01ReadX (ws.getD 1 []) (HWLE.out 1) w'
        have HR2 : Hid (∀ w', _) := Lib.hid fun w' => l01ReadX (ws.getD 2 []) (HWLE.out 2) w'
        have HR3 : Hid (∀ w', _) := Lib.hid fun w' => l01ReadX (ws.getD 3 []) (HWLE.out 3) w'
        have HOKR : Hid (okRow ws ↔ (ws.getD 0 [] = [102, 114, 101, 101] ∨ ws.getD 0 [] = [102, 105, 120, 101, 100]) ∧ (numL (ws.getD 1 [])).isSome = true ∧ (numL (ws.getD 2 [])).isSome = true ∧ (numL (ws.getD 3 [])).isSome = true) := Lib.hid (by unfold okRow; rw [numC_some, numC_some, numC_some]; exact ⟨fun h => h.2, fun h => ⟨h4, h⟩⟩)
        have b40 : ((ws.length : Nat) : Int) = 4 := by omega
        rw [h4] at hc81 ⊢
        clear hcur8 hstr8 h4 b40 hwl
        have hq0 := str_eqb (ws.getD 0 []) [102, 114, 101, 101]
        have hq1 := str_eqb (ws.getD 0 []) [102, 105, 120, 101, 100]
        generalize numB (ws.getD 1 []) = x1 at *
        generalize numB (ws.getD 2 []) = x2 at *
        generalize numB (ws.getD 3 []) = x3 at *
        generalize (numL (ws.getD 1 [])).isSome = p1 at *
        generalize (numL (ws.getD 2 [])).isSome = p2 at *
        generalize (numL (ws.getD 3 [])).isSome = p3 at *
        generalize (ws.getD 1 []).toArray = s1 at *
        generalize (ws.getD 2 []).toArray = s2 at *
        generalize (ws.getD 3 []).toArray = s3 at *
        generalize ws.getD 0 [] = v0 at *
        by_cases hfr : v0 = [102, 114, 101, 101]
        · have hdum := trivial
          have HOKA : Hid (p1 = true → p2 = true → p3 = true → ∀ j, j < k + 1 → isC (gd0 l) j = true → okRow (wdG l j)) := Lib.hid fun a b c => HROK.out (HOKR.out.2 ⟨.inl hfr, a, b, c⟩)
          replace HSN := HSN.out
          rw [show decide (v0 = [102, 105, 120, 101, 100]) = false by rw [hfr]; decide, if_neg (by decide)] at HSN
          replace HSN := Lib.hid HSN
          clear hq0 hq1
          subst hfr
          go_upto_region 19 with fail
          have e1 := (hB8.cell 1).trans HE1.out
          have r1 := fun w' => HR1.out w'
          go_upto_region 20 with (go_at_call 25; refine (r1 _).mono ?_; rintro e w4 ⟨z1, nq, rfl, hz1, rfl⟩)
          have hz1 := Lib.hid hz1
          replace hst := hst.drewN nq
          replace hB8 := hB8.drewN nq
          clear e1 r1
          generalize World.drewN _ nq = w4 at *
          have e2 := (hB8.cell 2).trans HE2.out
          have r2 := fun w' => HR2.out w'
          go_upto_region 21 with (go_at_call 25; refine (r2 _).mono ?_; rintro e w4 ⟨z2, nq, rfl, hz2, rfl⟩)
          have hz2 := Lib.hid hz2
          replace hst := hst.drewN nq
          replace hB8 := hB8.drewN nq
          clear e2 r2
          generalize World.drewN _ nq = w4 at *
          have e3 := (hB8.cell 3).trans HE3.out
          have r3 := fun w' => HR3.out w'
          go_upto_region 22 with (go_at_call 25; refine (r3 _).mono ?_; rintro e w4 ⟨z3, nq, rfl, hz3, rfl⟩)
          have hz3 := Lib.hid hz3
          replace hst := hst.drewN nq
          replace hB8 := hB8.drewN nq
          clear e3 r3
          generalize World.drewN _ nq = w4 at *
          have hcs : (p1 = false) ∨ (p1 = true ∧ p2 = false) ∨ (p1 = true ∧ p2 = true ∧ p3 = false) ∨ (p1 = true ∧ p2 = true ∧ p3 = true) := by cases p1 <;> cases p2 <;> cases p3 <;> simp
          rcases hcs with rfl | ⟨rfl, rfl⟩ | ⟨rfl, rfl, rfl⟩ | ⟨rfl, rfl, rfl⟩
          rotate_left 3
          · obtain rfl := hz1.out rfl
            obtain rfl := hz2.out rfl
            obtain rfl := hz3.out rfl
            have HRW := Lib.hid (HOKA.out rfl rfl rfl)
            go_upto_region 25 with (refine wpList_store_abs (v := .float .f32 _) rfl rfl rfl rfl szF32 rfl rfl hst.b1 (by rw [Gr.size]; omega) ?_; intro w9 hBn hGn)
            rw [Gr.putC _ _ _ hlt] at hBn
            replace hB8 := hB8.grown hGn (fun e => by injection e with e; exact hg8q e.symm)
            replace hst := hst.put hBn hGn
            clear hBn hGn
            go_upto_region 26 with (refine wpList_store_abs (v := .float .f32 _) rfl rfl rfl rfl szF32 rfl rfl hst.b1 (by rw [Gr.size]; omega) ?_; intro w9 hBn hGn)
            rw [Gr.putG _ _ _ hlt] at hBn
            replace hB8 := hB8.grown hGn (fun e => by injection e with e; exact hg8q e.symm)
            replace hst := hst.put hBn hGn
            clear hBn hGn
            go_upto_region 27 with (refine wpList_store_abs (v := .float .f32 _) rfl rfl rfl rfl szF32 rfl rfl hst.b1 (by rw [Gr.size]; omega) ?_; intro w9 hBn hGn)
            rw [Gr.setH _ _ _ hlt] at hBn
            replace hB8 := hB8.grown hGn (fun e => by injection e with e; exact hg8q e.symm)
            replace hst := hst.put hBn hGn
            clear hBn hGn
            have e0 := (hB8.cell 0).trans HE0.out
            go_wp2_with fail
            go_roundw
            case rel => exact ⟨k + 1, r + 1, by omega, Lib.hid (by rw [HS.out, List.length_append, hr.out]; rfl), by omega, by go_num, by go_num, by rw [HS.out, HSN.out]; exact hst, HRW⟩
            case measure => simp [intOf]; omega
          all_goals (
            have HNO : Hid (¬ SpecG l) := Lib.hid (HBAD.out fun q => by have h := (HOKR.out.1 q).2; simp at h)
            go_wp2_with (refine wpList_store_blk (C' := Tryz.zeroCells34) rfl rfl rfl rfl row66 hst.b0 zeroGr.size zc_size zc_one ?_)
            refine bodyPost_row2 rfl rfl row66 (hst.b0.setRow _) zc_size rfl ?_
            exact ⟨zeroGr, 5, by rw [← zeroCells_gr]; rfl, .inr ⟨HNO.out, rfl, rfl⟩, below_setRow hst.bel hst.le.1 _⟩)
        by_cases hfx : v0 = [102, 105, 120, 101, 100]
        · have hdum := trivial
          have HOKA : Hid (p1 = true → p2 = true → p3 = true → ∀ j, j < k + 1 → isC (gd0 l) j = true → okRow (wdG l j)) := Lib.hid fun a b c => HROK.out (HOKR.out.2 ⟨.inr hfx, a, b, c⟩)
          replace HSN := HSN.out
          rw [show decide (v0 = [102, 105, 120, 101, 100]) = true from decide_eq_true hfx, if_pos rfl] at HSN
          replace HSN := Lib.hid HSN
          clear hq0 hq1
          subst hfx
          go_upto_region 19 with fail
          have e1 := (hB8.cell 1).trans HE1.out
          have r1 := fun w' => HR1.out w'
          go_upto_region 20 with (go_at_call 25; refine (r1 _).mono ?_; rintro e w4 ⟨z1, nq, rfl, hz1, rfl⟩)
          have hz1 := Lib.hid hz1
          replace hst := hst.drewN nq
          replace hB8 := hB8.drewN nq
          clear e1 r1
          generalize World.drewN _ nq = w4 at *
          have e2 := (hB8.cell 2).trans HE2.out
          have r2 := fun w' => HR2.out w'
          go_upto_region 21 with (go_at_call 25; refine (r2 _).mono ?_; rintro e w4 ⟨z2, nq, rfl, hz2, rfl⟩)
          have hz2 := Lib.hid hz2
          replace hst := hst.drewN nq
          replace hB8 := hB8.drewN nq
          clear e2 r2
          generalize World.drewN _ nq = w4 at *
          have e3 := (hB8.cell 3).trans HE3.out
          have r3 := fun w' => HR3.out w'
          go_upto_region 22 with (go_at_call 25; refine (r3 _).mono ?_; rintro e w4 ⟨z3, nq, rfl, hz3, rfl⟩)
          have hz3 := Lib.hid hz3
          replace hst := hst.drewN nq
          replace hB8 := hB8.drewN nq
          clear e3 r3
          generalize World.drewN _ nq = w4 at *
          have hcs : (p1 = false) ∨ (p1 = true ∧ p2 = false) ∨ (p1 = true ∧ p2 = true ∧ p3 = false) ∨ (p1 = true ∧ p2 = true ∧ p3 = true) := by cases p1 <;> cases p2 <;> cases p3 <;> simp
          rcases hcs with rfl | ⟨rfl, rfl⟩ | ⟨rfl, rfl, rfl⟩ | ⟨rfl, rfl, rfl⟩
          rotate_left 3
          · obtain rfl := hz1.out rfl
            obtain rfl := hz2.out rfl
            obtain rfl := hz3.out rfl
            have HRW := Lib.hid (HOKA.out rfl rfl rfl)
            go_upto_region 25 with (refine wpList_store_abs (v := .float .f32 _) rfl rfl rfl rfl szF32 rfl rfl hst.b1 (by rw [Gr.size]; omega) ?_; intro w9 hBn hGn)
            rw [Gr.putC _ _ _ hlt] at hBn
            replace hB8 := hB8.grown hGn (fun e => by injection e with e; exact hg8q e.symm)
            replace hst := hst.put hBn hGn
            clear hBn hGn
            go_upto_region 26 with (refine wpList_store_abs (v := .float .f32 _) rfl rfl rfl rfl szF32 rfl rfl hst.b1 (by rw [Gr.size]; omega) ?_; intro w9 hBn hGn)
            rw [Gr.putG _ _ _ hlt] at hBn
            replace hB8 := hB8.grown hGn (fun e => by injection e with e; exact hg8q e.symm)
            replace hst := hst.put hBn hGn
            clear hBn hGn
            go_upto_region 27 with (refine wpList_store_abs (v := .float .f32 _) rfl rfl rfl rfl szF32 rfl rfl hst.b1 (by rw [Gr.size]; omega) ?_; intro w9 hBn hGn)
            rw [Gr.setH _ _ _ hlt] at hBn
            replace hB8 := hB8.grown hGn (fun e => by injection e with e; exact hg8q e.symm)
            replace hst := hst.put hBn hGn
            clear hBn hGn
            have e0 := (hB8.cell 0).trans HE0.out
            have cF := hst.b1.gat.getF
            have fF := hst.b1.free 194
            go_wp2_with (refine wpList_store_abs (v := .int .u64 _) rfl rfl rfl rfl szU64 rfl rfl hst.b1 (by rw [Gr.size]; omega) ?_; intro w9 hBn hGn)
            rw [orB_eq, Gr.setF] at hBn
            replace hst := hst.put hBn hGn
            clear hBn hGn cF fF
            go_roundw
            case rel => exact ⟨k + 1, r + 1, by omega, Lib.hid (by rw [HS.out, List.length_append, hr.out]; rfl), by omega, by go_num, by go_num, by rw [HS.out, HSN.out]; exact hst, HRW⟩
            case measure => simp [intOf]; omega
          all_goals (
            have HNO : Hid (¬ SpecG l) := Lib.hid (HBAD.out fun q => by have h := (HOKR.out.1 q).2; simp at h)
            go_wp2_with (refine wpList_store_blk (C' := Tryz.zeroCells34) rfl rfl rfl rfl row66 hst.b0 zeroGr.size zc_size zc_one ?_)
            refine bodyPost_row2 rfl rfl row66 (hst.b0.setRow _) zc_size rfl ?_
            exact ⟨zeroGr, 5, by rw [← zeroCells_gr]; rfl, .inr ⟨HNO.out, rfl, rfl⟩, below_setRow hst.bel hst.le.1 _⟩)
        have hq0 : (v0 == ([102, 114, 101, 101] : List UInt8)) = false := by simpa using hfr
        have hq1 : (v0 == ([102, 105, 120, 101, 100] : List UInt8)) = false := by simpa using hfx
        have HNO : Hid (¬ SpecG l) := Lib.hid (HBAD.out fun q => by rcases (HOKR.out.1 q).1 with h | h; exact hfr h; exact hfx h)
        clear hfr hfx
        go_wp2_with (refine wpList_store_blk (C' := Tryz.zeroCells34) rfl rfl rfl rfl row66 hst.b0 zeroGr.size zc_size zc_one ?_)
        refine bodyPost_row2 rfl rfl row66 (hst.b0.setRow _) zc_size rfl ?_
        exact ⟨zeroGr, 5, by rw [← zeroCells_gr]; rfl, .inr ⟨HNO.out, rfl, rfl⟩, below_setRow hst.bel hst.le.1 _⟩
    · obtain rfl : k = 64 := by omega
      have hok := l01Ok_any _ q1 (gdT_ok HG0.out l (cellsTo (gd0 l) 64)) wr hst.b1.gat
      have HEQ : Hid (gdT (gd0 l) l (cellsTo (gd0 l) 64) = gdR l) := Lib.hid (gdT_all _ _)
      rw [HEQ.out] at hok hst
      have hsz := (gdR l).size
      have hon := (gdR l).one
      cases hv : validG (gdR l) <;> rw [hv] at hok
      · have HNO : Hid (¬ SpecG l) := Lib.hid fun q => by have h := q.valid; rw [hv] at h; cases h
        clear hv
        go_wp2_with (first | (go_at_call 26; refine hok.mono ?_; rintro e w4 ⟨rfl, nq, rfl⟩; replace hst := hst.drewN nq; clear hok; generalize World.drewN _ nq = w4 at *) | (refine wpList_store_blk (C' := Tryz.zeroCells34) rfl rfl rfl rfl row66 hst.b0 zeroGr.size zc_size zc_one ?_))
        refine bodyPost_row2 rfl rfl row66 (hst.b0.setRow _) zc_size rfl ?_
        exact ⟨zeroGr, 5, by rw [← zeroCells_gr]; rfl, .inr ⟨HNO.out, rfl, rfl⟩, below_setRow hst.bel hst.le.1 _⟩
      · have HYES : Hid (SpecG l) := Lib.hid (HSQ.out (fun j hj hc => hrows.out j hj hc) hv)
        clear hv
        go_wp2_with (first | (go_at_call 26; refine hok.mono ?_; rintro e w4 ⟨rfl, nq, rfl⟩; replace hst := hst.drewN nq; clear hok; generalize World.drewN _ nq = w4 at *) | (refine wpList_load_blk rfl rfl rfl row66 hst.b1 hsz ?_) | (refine wpList_store_blk rfl rfl rfl rfl row66 hst.b0 zeroGr.size hsz hon ?_))
        refine bodyPost_row2 rfl rfl row66 (hst.b0.setRow _) hsz rfl ?_
        exact ⟨gdR l, 0, rfl, .inl ⟨HYES.out, rfl, rfl⟩, below_setRow hst.bel hst.le.1 _⟩
end Go.Proofs.YtcojgmgoiopboaaGreatDoor
