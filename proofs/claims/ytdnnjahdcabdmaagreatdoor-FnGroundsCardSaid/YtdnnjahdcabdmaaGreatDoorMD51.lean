import Derived.Test.YtdnnjahdcabdmaaGreatDoorMD45
import Derived.Test.YtdnnjahdcabdmaaGreatDoorMD46
import Derived.Test.YtdnnjahdcabdmaaGreatDoorMD47
import Derived.Test.YtdnnjahdcabdmaaGreatDoorMD48
import Derived.Test.YtdnnjahdcabdmaaGreatDoorMD49
import Derived.Test.YtdnnjahdcabdmaaGreatDoorMD33
import Derived.Test.YtdnnjahdcabdmaaGreatDoorMD50
/- The law over grounds (FnGrounds): the walk through the law's own function. -/
namespace Go.Proofs.YtdnnjahdcabdmaaGreatDoor
open Go.ChangeShapes Go.WideShapes Go.ChangeAt Go.RowKit
set_option linter.unusedVariables false
set_option linter.unusedSimpArgs false
attribute [local irreducible] Calls

theorem flwS_num {g : Gr} (h : IsDrawn g) {c : Nat} (hc : c < 64) (hcc : isC g c = true) (s : Nat) (hs : s < 4) : isN .f32 (flwS g c s) = false ∧ fin (flwS g c s) = true := by
  unfold flwS
  cases hn : nbr g c s
  · rw [if_neg Bool.false_ne_true]; exact ⟨by decide, by decide +kernel⟩
  · obtain ⟨n1, _⟩ := nbr_back h.sm hc hcc hs hn
    obtain ⟨a, b, _⟩ := drawn_flow h hc (nx_lt h.sm c s) hcc n1
    rw [if_pos rfl]
    exact ⟨b, a⟩
theorem flow_sum {g : Gr} (h : IsDrawn g) {c s : Nat} (hc : c < 64) (hcc : isC g c = true) (hs : s < 4) (hn : nbr g c s = true) {w : World} : feq (fres .add (flwS g (nx g c s) (opp s)) (flwS g c s) w) 0 = true := by
  obtain ⟨n1, n2, n3⟩ := nbr_back h.sm hc hcc hs hn
  obtain ⟨_, _, d⟩ := drawn_flow h hc (nx_lt h.sm c s) hcc n1
  have hcn : cn (fres .add (flwS g (nx g c s) (opp s)) (flwS g c s) w) = fop .add (flwS g (nx g c s) (opp s)) (flwS g c s) := cn_res _ _ _ _
  have e : feq (fres .add (flwS g (nx g c s) (opp s)) (flwS g c s) w) 0 = feq (fop .add (flwS g (nx g c s) (opp s)) (flwS g c s)) 0 := by
    rw [← hcn]; exact (feq_al (cn_cn _) 0).symm
  rw [e]
  unfold flwS flw
  rw [n2, hn, if_pos rfl, if_pos rfl, n3]
  exact d
theorem joint_val {g : Gr} (h : IsDrawn g) {i k : Nat} (hi : i < 64) (hk : k < 64) (w : World) :
    Calls Tryz.prog 41 #[.float .f32 (g.con i), .float .f32 (g.con k)] w fun e w' => e = .returned (.float .f32 (joint (g.con i) (g.con k))) ∧ ∃ n, w' = w.drewN n := by
  refine (joint_any (g.con i) (g.con k) w).mono ?_
  rintro e w' ⟨r, rfl, hr, hw⟩
  refine ⟨?_, hw⟩
  obtain ⟨x, hx, e1⟩ := h.cv hi
  obtain ⟨y, hy, e2⟩ := h.cv hk
  have hN := (joint_small x hx y hy).2
  rw [← e1, ← e2] at hN
  rw [cn_joint] at hr
  cases hr0 : isN .f32 r
  · have : cn r = r := cnk_of_not hr0
    rw [← hr, this]
  · have : cn r = qn .f32 := cnk_of_nan hr0
    rw [← hr, this, isN_qn] at hN
    cases hN
theorem fop_some {op : BinOp} {a b : Nat} (h : isN .f32 (fop op a b) = false) : floatBits op .f32 a b = some (fop op a b) := by
  unfold fop at h ⊢
  cases hb : floatBits op .f32 a b with
  | none =>
    rw [hb, Option.getD_none, show cn (qn .f32) = qn .f32 from cnk_of_nan (isN_qn _), isN_qn] at h
    cases h
  | some r =>
    rw [hb, Option.getD_some] at h
    rw [Option.getD_some]
    cases hr : isN .f32 r
    · rw [show cn r = r from cnk_of_not hr]
    · rw [show cn r = qn .f32 from cnk_of_nan hr, isN_qn] at h
      cases h
theorem flow_sum2 {g : Gr} (h : IsDrawn g) {c s : Nat} (hc : c < 64) (hcc : isC g c = true) (hs : s < 4) (hn : nbr g c s = true) : ∃ r, floatBits .add .f32 (flwS g (nx g c s) (opp s)) (flwS g c s) = some r ∧ (FloatKind.f32.format.order r 0 != some .eq) = false := by
  obtain ⟨n1, n2, n3⟩ := nbr_back h.sm hc hcc hs hn
  obtain ⟨_, _, d⟩ := drawn_flow h hc (nx_lt h.sm c s) hcc n1
  have e : feq (fop .add (flwS g (nx g c s) (opp s)) (flwS g c s)) 0 = true := by
    unfold flwS flw
    rw [n2, hn, if_pos rfl, if_pos rfl, n3]
    exact d
  refine ⟨_, fop_some ?_, by rw [fne_eq, e]; rfl⟩
  cases hN : isN .f32 (fop .add (flwS g (nx g c s) (opp s)) (flwS g c s))
  · rfl
  · unfold feq at e
    rw [order_nan_left (k := .f32) (y := 0) hN] at e
    cases e
theorem wpList_load_wantH {P : Program} {ops : Array Oper} {rest : List Oper} {o : Oper} {a : Act} {Q : Exit → Act → World → Prop} {w : World} {ty t : TypeId} {x : Operand} {b n : Nat} {C : Array Value} (hw : Region.wanted o (yielded ops a.tmps) = true) (ho : o.op = .load ty x) (hx : a.eval x = .pointer (some ⟨b, 0, none⟩)) (hr : RowTy P ty n) (hb : Blk w b C t) (hs : C.size = n)
    (h : wpList P ops Q rest (a.put o.dst (.agg C)) w) : wpList P ops Q (o :: rest) a w := by
  obtain ⟨d, hu, hd, hi⟩ := hr
  exact wpList_step fun K hK => by
    simp only [hw, if_true]
    exact wp_load_row ty x ho b hx t C (0, 0) d hb hu (by cases d <;> simp_all) (by rw [hi, hs]) (hK _ _ h)
set_option maxRecDepth 100000 in
set_option maxHeartbeats 400000 in
theorem a2Number_any (v : Value) (n : Nat) (w : World) (hv : Bytes w w.heap.size v n) :
    Calls Tryz.prog 28 #[v] w fun e w' => ∃ x, x < 4294967296 ∧ e = .returned (.float .f32 x) ∧ Below w.heap.size w w' := by
  have hs := src_new hv
  have hfr := l00From_any v n w hv
  have hbs := below1 w (.cells #[v, .int .i64 0, .int .u64 0] 149)
  generalize w.alloc (.cells #[v, .int .i64 0, .int .u64 0] 149) = W1 at *
  have hdr := l01Any_any w.heap.size 0 (by omega) W1 hs
  clear hs hv
  go_enter Tryz.func28, Tryz.ntmps28
  go_wp2_with (first | (go_at_call 43; refine hfr.mono ?_; rintro e w1 ⟨rfl, hw⟩; subst hw) | (go_at_call 80; refine hdr.mono ?_; rintro e w2 ⟨x, hx, rfl, hs2, hg2⟩))
  go_ret
  exact ⟨x, hx, rfl, hbs.grown hg2 (by have := hbs.size; omega) (fun k e => by injection e; omega)⟩
set_option maxRecDepth 100000 in
set_option maxHeartbeats 8000000 in
theorem lawGrounds (v1 : Value) (n1 : Nat) (v2 : Value) (n2 : Nat) (w : World) (h1 : BSl w v1 n1) (h2 : BSl w v2 n2) (hV : NumVars w) (htab : Lib.TabIs Tryz.prog w "internal/strconv.uint64pow10" .u64 Lib.pow10Tab) (mx : Int) (hmx : w.cell? ⟨1, 0, none⟩ = some (.int .i64 mx)) :
    Calls Tryz.prog 4 #[v1, v2] w fun e w' => e = .returned (.bool true) ∧ Below w.heap.size w w' := by
  have h1' := h1
  have h2' := h2
  obtain ⟨a1, c1, rfl, m1, _⟩ := h1'
  obtain ⟨a2, c2, rfl, m2, _⟩ := h2'
  have hlong := fun w' => a2Long_any a1 a2 n1 n2 c1 c2 m1 m2 w'
  by_cases hl : 3000 < n1 ∨ 3000 < n2
  · have hd : (decide (3000 < n1) || decide (3000 < n2)) = true := by simp; exact hl
    rw [hd] at hlong
    clear hd hl h1 h2 m1 m2 hV htab hmx
    go_enter Tryz.func4, Tryz.ntmps4
    go_wp2_with (go_at_call 5; refine (hlong _).mono ?_; rintro e w' ⟨rfl, hw⟩; rw [hw]; clear hw w')
    go_ret
    exact ⟨rfl, Below.refl _ _⟩
  have hd : (decide (3000 < n1) || decide (3000 < n2)) = false := by simp; omega
  rw [hd] at hlong
  have q1 : n1 ≤ 4096 := by omega
  have q2 : n2 ≤ 4096 := by omega
  have hof := a2Ground_any _ _ w (h1.bytes q1)
  have hnm := fun w' (hb : Below w.heap.size w w') => a2Number_any _ _ w' ((h2.below hb).bytes q2)
  have HV := Lib.hid hV
  have HT := Lib.hid htab
  have HM := Lib.hid hmx
  clear hd hl h1 m1 m2 h2 hV htab hmx
  go_enter Tryz.func4, Tryz.ntmps4
  go_upto_region 4 with (first | (go_at_call 5; refine (hlong _).mono ?_; rintro e w' ⟨rfl, hw⟩; rw [hw]; clear hw w') | (go_at_call 23; refine hof.mono ?_; rintro e w1 ⟨G, hG, rfl, hbel⟩) | (refine wpList_alloc_as rfl rfl zero66 ?_) | (refine wpList_store_last (c' := G.cells) rfl rfl rfl rfl rfl (by rw [Gr.size]; kernel_rfl) (by rw [Gr.size, Gr.size]) (List.all_eq_true.2 (Gr.one _)) ?_))
  have hA := Blk.new w1 G.cells 30
  have hbel := hbel.alloc hbel.size (.cells G.cells 30)
  generalize w1.alloc (.cells G.cells 30) = W1 at *
  generalize w1.heap.size = p5 at *
  clear hof hlong
  have hok := hG.ok
  have hvl := hG.valid
  have hTx := hG.text
  have hgt : ∀ w', Below w.heap.size w w' → Calls Tryz.prog 25 #[.agg G.cells] w' fun e w'' => e = .returned (.string ⟨(txtGr G).toArray⟩) ∧ Below w'.heap.size w' w'' := fun w' hb => by
    have h1 := groundText_any G hok hTx.bare hTx.fits w' (HV.out.below hb) (tab_below HT.out hb)
    rw [hvl, if_pos rfl] at h1
    exact h1
  have hSp : SpecG (txtGr G) := (goodG_iff _).1 ⟨G, hTx, rfl⟩
  have hrg : ∀ w', Below w.heap.size w w' → Calls Tryz.prog 24 #[.string ⟨(txtGr G).toArray⟩] w' fun e w'' => e = .returned (.tuple #[.agg G.cells, .int .i64 0]) ∧ Below w'.heap.size w' w'' := fun w' hb => by
    have h1 := readGroundI_any ⟨(txtGr G).toArray⟩ (by rw [size_of]; exact txtGr_short hTx) w' (HV.out.below hb) (tab_below HT.out hb) mx ((hb.cell (p := ⟨1, 0, none⟩) (Lib.lt_of_cell HM.out)).trans HM.out)
    rw [show (⟨(txtGr G).toArray⟩ : ByteArray).data.toList = txtGr G by simp] at h1
    refine h1.mono ?_
    rintro e w'' ⟨G', c, rfl, (⟨_, rfl, rfl⟩ | ⟨hn, _⟩), hbel⟩
    · exact ⟨by rw [gdR_cells hTx], hbel⟩
    · exact absurd hSp hn
  have hmi := fun w' => mirrorGround_any G hok hvl w'
  have hms := fun w' => specMirrorGround_any G hok hvl w'
  have hmm := fun w' => mirrorGround_any (mirG G) (mirG_ok hok) (mirG_valid hok hvl) w'
  rw [mirG_cells hok hvl] at hmm
  have hsi := fun w' => sameGroundI_one G w'
  have hss := fun w' => sameGroundS_one G w'
  have hsm := fun w' => sameGroundS_one (mirG G) w'
  have hvg := fun w' => validGround_any G hok w'
  rw [hvl] at hvg
  have hhb := fun w' => headsBetween_any G hG w'
  generalize hM : mirG G = M at *
  clear hM
  have HG := Lib.hid hG
  have HTX := Lib.hid hTx
  clear hTx hSp hG
  generalize txtGr G = T at *
  go_upto_region 5 with (first | (refine wpList_load_blk rfl rfl rfl row66 hA (Gr.size _) ?_) | (go_at_call 25; refine (hgt _ hbel).mono ?_; rintro e W2 ⟨rfl, hb2⟩; replace hA := hA.below hb2 hA.lt; replace hbel := hbel.trans (hb2.mono hbel.size)) | (go_at_call 24; refine (hrg _ hbel).mono ?_; rintro e W3 ⟨rfl, hb3⟩; replace hA := hA.below hb3 hA.lt; replace hbel := hbel.trans (hb3.mono hbel.size)) | (refine wpList_alloc_as rfl rfl zero66 ?_) | (refine wpList_store_last (c' := G.cells) rfl rfl rfl rfl rfl (by rw [Gr.size]; kernel_rfl) (by rw [Gr.size, Gr.size]) (List.all_eq_true.2 (Gr.one _)) ?_))
  --GEN
  clear hb2 hb3 hgt hrg
  replace hA := hA.alloc (.cells G.cells 30)
  have hB := Blk.new W3 G.cells 30
  replace hbel := hbel.alloc hbel.size (.cells G.cells 30)
  generalize W3.alloc (.cells G.cells 30) = W4 at *
  generalize W3.heap.size = p6 at *
  go_upto_region 6 with (first | (refine wpList_load_blk rfl rfl rfl row66 hA (Gr.size _) ?_) | (go_at_call 26; refine (hmi _).mono ?_; rintro e W5 ⟨rfl, hb5⟩; replace hA := hA.below hb5 hA.lt; replace hB := hB.below hb5 hB.lt; replace hbel := hbel.trans (hb5.mono hbel.size)) | (refine wpList_alloc_as rfl rfl zero66 ?_) | (refine wpList_store_last (c' := M.cells) rfl rfl rfl rfl rfl (by rw [Gr.size]; kernel_rfl) (by rw [Gr.size, Gr.size]) (List.all_eq_true.2 (Gr.one _)) ?_))
  clear hb5
  replace hA := hA.alloc (.cells M.cells 30)
  replace hB := hB.alloc (.cells M.cells 30)
  have hC := Blk.new W5 M.cells 30
  replace hbel := hbel.alloc hbel.size (.cells M.cells 30)
  generalize W5.alloc (.cells M.cells 30) = W6 at *
  generalize W5.heap.size = p8 at *
  clear hmi
  go_upto_region 7 with (first | (refine wpList_load_blk rfl rfl rfl row66 hA (Gr.size _) ?_) | (go_at_call 27; refine (hms _).mono ?_; rintro e W7 ⟨rfl, hb7⟩; replace hA := hA.below hb7 hA.lt; replace hB := hB.below hb7 hB.lt; replace hC := hC.below hb7 hC.lt; replace hbel := hbel.trans (hb7.mono hbel.size)) | (refine wpList_alloc_as rfl rfl zero66 ?_) | (refine wpList_store_last (c' := M.cells) rfl rfl rfl rfl rfl (by rw [Gr.size]; kernel_rfl) (by rw [Gr.size, Gr.size]) (List.all_eq_true.2 (Gr.one _)) ?_))
  clear hb7
  replace hA := hA.alloc (.cells M.cells 30)
  replace hB := hB.alloc (.cells M.cells 30)
  replace hC := hC.alloc (.cells M.cells 30)
  have hD := Blk.new W7 M.cells 30
  replace hbel := hbel.alloc hbel.size (.cells M.cells 30)
  generalize W7.alloc (.cells M.cells 30) = W8 at *
  generalize W7.heap.size = p10 at *
  clear hms
  go_upto_region 8 with (first | (refine wpList_load_blk rfl rfl rfl row66 hD (Gr.size _) ?_) | (go_at_call 26; refine (hmm _).mono ?_; rintro e W9 ⟨rfl, hb9⟩; replace hA := hA.below hb9 hA.lt; replace hB := hB.below hb9 hB.lt; replace hC := hC.below hb9 hC.lt; replace hD := hD.below hb9 hD.lt; replace hbel := hbel.trans (hb9.mono hbel.size)) | (refine wpList_alloc_as rfl rfl zero66 ?_) | (refine wpList_store_last (c' := G.cells) rfl rfl rfl rfl rfl (by rw [Gr.size]; kernel_rfl) (by rw [Gr.size, Gr.size]) (List.all_eq_true.2 (Gr.one _)) ?_))
  clear hb9
  replace hA := hA.alloc (.cells G.cells 30)
  replace hB := hB.alloc (.cells G.cells 30)
  replace hC := hC.alloc (.cells G.cells 30)
  replace hD := hD.alloc (.cells G.cells 30)
  have hE := Blk.new W9 G.cells 30
  replace hbel := hbel.alloc hbel.size (.cells G.cells 30)
  generalize W9.alloc (.cells G.cells 30) = W10 at *
  generalize W9.heap.size = p12 at *
  clear hmm
  go_upto_region 9 with (go_at_call 28; refine (hnm _ hbel).mono ?_; rintro e W11 ⟨x, hx, rfl, hb11⟩; replace hA := hA.below hb11 hA.lt; replace hB := hB.below hb11 hB.lt; replace hC := hC.below hb11 hC.lt; replace hD := hD.below hb11 hD.lt; replace hE := hE.below hb11 hE.lt; replace hbel := hbel.trans (hb11.mono hbel.size))
  clear hb11 hnm
  have hnt := numberText_any x hx W11 (HV.out.below hbel)
  have hrn : ∀ w', Below w.heap.size w w' → Calls Tryz.prog 29 #[.string ⟨(txt x).toArray⟩] w' fun e w'' => e = .returned (.tuple #[.float .f32 (cn x), .int .i64 0]) ∧ Below w'.heap.size w' w'' := fun w' hb => by
    have h1 := readNumberI_any ⟨(txt x).toArray⟩ (by rw [size_of, txt_length]; omega) w' (HV.out.below hb)
    rw [show (⟨(txt x).toArray⟩ : ByteArray).data.toList = txt x by simp, (numL_back hx).1, (numL_back hx).2] at h1
    exact h1
  have hnS := fun w' => sameNumberS_cn (x := x) (y := cn x) (cn_cn x).symm w'
  have hnI := fun w' => sameNumberI_cn (x := x) (y := cn x) (cn_cn x).symm w'
  have hpS := fun w' => isPlainS_any x w'
  have hpI := fun w' => isPlain_any x w'
  have hpp : (plain x != plain x) = false := by simp
  generalize hP : plain x = P at *
  clear hP
  go_upto_region 10 with (first | (go_at_call 30; refine (hnt).mono ?_; rintro e W12 ⟨rfl, hb12⟩; replace hA := hA.below hb12 hA.lt; replace hB := hB.below hb12 hB.lt; replace hC := hC.below hb12 hC.lt; replace hD := hD.below hb12 hD.lt; replace hE := hE.below hb12 hE.lt; replace hbel := hbel.trans (hb12.mono hbel.size)) | (go_at_call 29; refine (hrn _ hbel).mono ?_; rintro e W13 ⟨rfl, hb13⟩; replace hA := hA.below hb13 hA.lt; replace hB := hB.below hb13 hB.lt; replace hC := hC.below hb13 hC.lt; replace hD := hD.below hb13 hD.lt; replace hE := hE.below hb13 hE.lt; replace hbel := hbel.trans (hb13.mono hbel.size)))
  clear hb12 hb13 hnt hrn
  generalize txt x = tx at *
  generalize cn x = y at *
  go_cut [132] from 66 to 132 (fun c wx => c = .bool false ∧ Below w.heap.size w wx ∧ Blk wx p5 G.cells 30)
  case first =>
    go_wp2_with (first | (go_at_call 31; refine (hsi _).mono ?_; rintro e V1 ⟨rfl, hbx⟩; replace hA := hA.below hbx hA.lt; replace hB := hB.below hbx hB.lt; replace hC := hC.below hbx hC.lt; replace hD := hD.below hbx hD.lt; replace hE := hE.below hbx hE.lt; replace hbel := hbel.trans (hbx.mono hbel.size); clear hbx) | (go_at_call 19; refine (hss _).mono ?_; rintro e V1 ⟨rfl, hbx⟩; replace hA := hA.below hbx hA.lt; replace hB := hB.below hbx hB.lt; replace hC := hC.below hbx hC.lt; replace hD := hD.below hbx hD.lt; replace hE := hE.below hbx hE.lt; replace hbel := hbel.trans (hbx.mono hbel.size); clear hbx) | (go_at_call 19; refine (hsm _).mono ?_; rintro e V1 ⟨rfl, hbx⟩; replace hA := hA.below hbx hA.lt; replace hB := hB.below hbx hB.lt; replace hC := hC.below hbx hC.lt; replace hD := hD.below hbx hD.lt; replace hE := hE.below hbx hE.lt; replace hbel := hbel.trans (hbx.mono hbel.size); clear hbx) | (go_at_call 32; refine (hvg _).mono ?_; rintro e V1 ⟨rfl, hbx⟩; replace hA := hA.below hbx hA.lt; replace hB := hB.below hbx hB.lt; replace hC := hC.below hbx hC.lt; replace hD := hD.below hbx hD.lt; replace hE := hE.below hbx hE.lt; replace hbel := hbel.trans (hbx.mono hbel.size); clear hbx) | (go_at_call 20; refine (hnS _).mono ?_; rintro e w' ⟨rfl, hw⟩; rw [hw]; clear hw w') | (go_at_call 33; refine (hnI _).mono ?_; rintro e w' ⟨rfl, hw⟩; rw [hw]; clear hw w') | (go_at_call 34; refine (hpI _).mono ?_; rintro e w' ⟨rfl, hw⟩; rw [hw]; clear hw w') | (go_at_call 35; refine (hpS _).mono ?_; rintro e w' ⟨rfl, hw⟩; rw [hw]; clear hw w'))
    refine wpList_load_wantH rfl rfl rfl row66 hB (Gr.size _) ?_
    refine wpList_load_wantH rfl rfl rfl row66 hA (Gr.size _) ?_
    go_wp2_with (first | (go_at_call 31; refine (hsi _).mono ?_; rintro e V2 ⟨rfl, hbx⟩; replace hA := hA.below hbx hA.lt; replace hB := hB.below hbx hB.lt; replace hC := hC.below hbx hC.lt; replace hD := hD.below hbx hD.lt; replace hE := hE.below hbx hE.lt; replace hbel := hbel.trans (hbx.mono hbel.size); clear hbx) | (go_at_call 19; refine (hss _).mono ?_; rintro e V2 ⟨rfl, hbx⟩; replace hA := hA.below hbx hA.lt; replace hB := hB.below hbx hB.lt; replace hC := hC.below hbx hC.lt; replace hD := hD.below hbx hD.lt; replace hE := hE.below hbx hE.lt; replace hbel := hbel.trans (hbx.mono hbel.size); clear hbx) | (go_at_call 19; refine (hsm _).mono ?_; rintro e V2 ⟨rfl, hbx⟩; replace hA := hA.below hbx hA.lt; replace hB := hB.below hbx hB.lt; replace hC := hC.below hbx hC.lt; replace hD := hD.below hbx hD.lt; replace hE := hE.below hbx hE.lt; replace hbel := hbel.trans (hbx.mono hbel.size); clear hbx) | (go_at_call 32; refine (hvg _).mono ?_; rintro e V2 ⟨rfl, hbx⟩; replace hA := hA.below hbx hA.lt; replace hB := hB.below hbx hB.lt; replace hC := hC.below hbx hC.lt; replace hD := hD.below hbx hD.lt; replace hE := hE.below hbx hE.lt; replace hbel := hbel.trans (hbx.mono hbel.size); clear hbx) | (go_at_call 20; refine (hnS _).mono ?_; rintro e w' ⟨rfl, hw⟩; rw [hw]; clear hw w') | (go_at_call 33; refine (hnI _).mono ?_; rintro e w' ⟨rfl, hw⟩; rw [hw]; clear hw w') | (go_at_call 34; refine (hpI _).mono ?_; rintro e w' ⟨rfl, hw⟩; rw [hw]; clear hw w') | (go_at_call 35; refine (hpS _).mono ?_; rintro e w' ⟨rfl, hw⟩; rw [hw]; clear hw w'))
    refine wpList_load_wantH rfl rfl rfl row66 hB (Gr.size _) ?_
    refine wpList_load_wantH rfl rfl rfl row66 hA (Gr.size _) ?_
    go_wp2_with (first | (go_at_call 31; refine (hsi _).mono ?_; rintro e V3 ⟨rfl, hbx⟩; replace hA := hA.below hbx hA.lt; replace hB := hB.below hbx hB.lt; replace hC := hC.below hbx hC.lt; replace hD := hD.below hbx hD.lt; replace hE := hE.below hbx hE.lt; replace hbel := hbel.trans (hbx.mono hbel.size); clear hbx) | (go_at_call 19; refine (hss _).mono ?_; rintro e V3 ⟨rfl, hbx⟩; replace hA := hA.below hbx hA.lt; replace hB := hB.below hbx hB.lt; replace hC := hC.below hbx hC.lt; replace hD := hD.below hbx hD.lt; replace hE := hE.below hbx hE.lt; replace hbel := hbel.trans (hbx.mono hbel.size); clear hbx) | (go_at_call 19; refine (hsm _).mono ?_; rintro e V3 ⟨rfl, hbx⟩; replace hA := hA.below hbx hA.lt; replace hB := hB.below hbx hB.lt; replace hC := hC.below hbx hC.lt; replace hD := hD.below hbx hD.lt; replace hE := hE.below hbx hE.lt; replace hbel := hbel.trans (hbx.mono hbel.size); clear hbx) | (go_at_call 32; refine (hvg _).mono ?_; rintro e V3 ⟨rfl, hbx⟩; replace hA := hA.below hbx hA.lt; replace hB := hB.below hbx hB.lt; replace hC := hC.below hbx hC.lt; replace hD := hD.below hbx hD.lt; replace hE := hE.below hbx hE.lt; replace hbel := hbel.trans (hbx.mono hbel.size); clear hbx) | (go_at_call 20; refine (hnS _).mono ?_; rintro e w' ⟨rfl, hw⟩; rw [hw]; clear hw w') | (go_at_call 33; refine (hnI _).mono ?_; rintro e w' ⟨rfl, hw⟩; rw [hw]; clear hw w') | (go_at_call 34; refine (hpI _).mono ?_; rintro e w' ⟨rfl, hw⟩; rw [hw]; clear hw w') | (go_at_call 35; refine (hpS _).mono ?_; rintro e w' ⟨rfl, hw⟩; rw [hw]; clear hw w'))
    refine wpList_load_wantH rfl rfl rfl row66 hA (Gr.size _) ?_
    go_wp2_with (first | (go_at_call 31; refine (hsi _).mono ?_; rintro e V4 ⟨rfl, hbx⟩; replace hA := hA.below hbx hA.lt; replace hB := hB.below hbx hB.lt; replace hC := hC.below hbx hC.lt; replace hD := hD.below hbx hD.lt; replace hE := hE.below hbx hE.lt; replace hbel := hbel.trans (hbx.mono hbel.size); clear hbx) | (go_at_call 19; refine (hss _).mono ?_; rintro e V4 ⟨rfl, hbx⟩; replace hA := hA.below hbx hA.lt; replace hB := hB.below hbx hB.lt; replace hC := hC.below hbx hC.lt; replace hD := hD.below hbx hD.lt; replace hE := hE.below hbx hE.lt; replace hbel := hbel.trans (hbx.mono hbel.size); clear hbx) | (go_at_call 19; refine (hsm _).mono ?_; rintro e V4 ⟨rfl, hbx⟩; replace hA := hA.below hbx hA.lt; replace hB := hB.below hbx hB.lt; replace hC := hC.below hbx hC.lt; replace hD := hD.below hbx hD.lt; replace hE := hE.below hbx hE.lt; replace hbel := hbel.trans (hbx.mono hbel.size); clear hbx) | (go_at_call 32; refine (hvg _).mono ?_; rintro e V4 ⟨rfl, hbx⟩; replace hA := hA.below hbx hA.lt; replace hB := hB.below hbx hB.lt; replace hC := hC.below hbx hC.lt; replace hD := hD.below hbx hD.lt; replace hE := hE.below hbx hE.lt; replace hbel := hbel.trans (hbx.mono hbel.size); clear hbx) | (go_at_call 20; refine (hnS _).mono ?_; rintro e w' ⟨rfl, hw⟩; rw [hw]; clear hw w') | (go_at_call 33; refine (hnI _).mono ?_; rintro e w' ⟨rfl, hw⟩; rw [hw]; clear hw w') | (go_at_call 34; refine (hpI _).mono ?_; rintro e w' ⟨rfl, hw⟩; rw [hw]; clear hw w') | (go_at_call 35; refine (hpS _).mono ?_; rintro e w' ⟨rfl, hw⟩; rw [hw]; clear hw w'))
    refine wpList_load_wantH rfl rfl rfl row66 hC (Gr.size _) ?_
    refine wpList_load_wantH rfl rfl rfl row66 hD (Gr.size _) ?_
    go_wp2_with (first | (go_at_call 31; refine (hsi _).mono ?_; rintro e V5 ⟨rfl, hbx⟩; replace hA := hA.below hbx hA.lt; replace hB := hB.below hbx hB.lt; replace hC := hC.below hbx hC.lt; replace hD := hD.below hbx hD.lt; replace hE := hE.below hbx hE.lt; replace hbel := hbel.trans (hbx.mono hbel.size); clear hbx) | (go_at_call 19; refine (hss _).mono ?_; rintro e V5 ⟨rfl, hbx⟩; replace hA := hA.below hbx hA.lt; replace hB := hB.below hbx hB.lt; replace hC := hC.below hbx hC.lt; replace hD := hD.below hbx hD.lt; replace hE := hE.below hbx hE.lt; replace hbel := hbel.trans (hbx.mono hbel.size); clear hbx) | (go_at_call 19; refine (hsm _).mono ?_; rintro e V5 ⟨rfl, hbx⟩; replace hA := hA.below hbx hA.lt; replace hB := hB.below hbx hB.lt; replace hC := hC.below hbx hC.lt; replace hD := hD.below hbx hD.lt; replace hE := hE.below hbx hE.lt; replace hbel := hbel.trans (hbx.mono hbel.size); clear hbx) | (go_at_call 32; refine (hvg _).mono ?_; rintro e V5 ⟨rfl, hbx⟩; replace hA := hA.below hbx hA.lt; replace hB := hB.below hbx hB.lt; replace hC := hC.below hbx hC.lt; replace hD := hD.below hbx hD.lt; replace hE := hE.below hbx hE.lt; replace hbel := hbel.trans (hbx.mono hbel.size); clear hbx) | (go_at_call 20; refine (hnS _).mono ?_; rintro e w' ⟨rfl, hw⟩; rw [hw]; clear hw w') | (go_at_call 33; refine (hnI _).mono ?_; rintro e w' ⟨rfl, hw⟩; rw [hw]; clear hw w') | (go_at_call 34; refine (hpI _).mono ?_; rintro e w' ⟨rfl, hw⟩; rw [hw]; clear hw w') | (go_at_call 35; refine (hpS _).mono ?_; rintro e w' ⟨rfl, hw⟩; rw [hw]; clear hw w'))
    refine wpList_load_wantH rfl rfl rfl row66 hE (Gr.size _) ?_
    refine wpList_load_wantH rfl rfl rfl row66 hA (Gr.size _) ?_
    go_wp2_with (first | (go_at_call 31; refine (hsi _).mono ?_; rintro e V6 ⟨rfl, hbx⟩; replace hA := hA.below hbx hA.lt; replace hB := hB.below hbx hB.lt; replace hC := hC.below hbx hC.lt; replace hD := hD.below hbx hD.lt; replace hE := hE.below hbx hE.lt; replace hbel := hbel.trans (hbx.mono hbel.size); clear hbx) | (go_at_call 19; refine (hss _).mono ?_; rintro e V6 ⟨rfl, hbx⟩; replace hA := hA.below hbx hA.lt; replace hB := hB.below hbx hB.lt; replace hC := hC.below hbx hC.lt; replace hD := hD.below hbx hD.lt; replace hE := hE.below hbx hE.lt; replace hbel := hbel.trans (hbx.mono hbel.size); clear hbx) | (go_at_call 19; refine (hsm _).mono ?_; rintro e V6 ⟨rfl, hbx⟩; replace hA := hA.below hbx hA.lt; replace hB := hB.below hbx hB.lt; replace hC := hC.below hbx hC.lt; replace hD := hD.below hbx hD.lt; replace hE := hE.below hbx hE.lt; replace hbel := hbel.trans (hbx.mono hbel.size); clear hbx) | (go_at_call 32; refine (hvg _).mono ?_; rintro e V6 ⟨rfl, hbx⟩; replace hA := hA.below hbx hA.lt; replace hB := hB.below hbx hB.lt; replace hC := hC.below hbx hC.lt; replace hD := hD.below hbx hD.lt; replace hE := hE.below hbx hE.lt; replace hbel := hbel.trans (hbx.mono hbel.size); clear hbx) | (go_at_call 20; refine (hnS _).mono ?_; rintro e w' ⟨rfl, hw⟩; rw [hw]; clear hw w') | (go_at_call 33; refine (hnI _).mono ?_; rintro e w' ⟨rfl, hw⟩; rw [hw]; clear hw w') | (go_at_call 34; refine (hpI _).mono ?_; rintro e w' ⟨rfl, hw⟩; rw [hw]; clear hw w') | (go_at_call 35; refine (hpS _).mono ?_; rintro e w' ⟨rfl, hw⟩; rw [hw]; clear hw w'))
    go_meet
    exact ⟨rfl, hbel, hA⟩
  case rest =>
    obtain ⟨rfl, hbelc, hAc⟩ := hcut
    clear hA hB hC hD hE hbel hsi hss hsm hvg hnS hnI hpS hpI hpp
    have hbel := hbelc
    have hA := hAc
    clear hbelc hAc
    go_upto_region 13 with (first | (refine wpList_load_blk rfl rfl rfl row66 hA (Gr.size _) ?_) | (go_at_call 36; refine (hhb _).mono ?_; rintro e W15 ⟨lo, hi, rfl, hlh, hb15⟩; replace hA := hA.below hb15 hA.lt; replace hbel := hbel.trans (hb15.mono hbel.size)))
    clear hb15 hhb
    have HLH := Lib.hid hlh
    clear hlh
    go_wp2_with fail
    go_loopw [20] (fun i wr => ∃ k : Nat, k ≤ 64 ∧ i = .int .i64 k ∧ Below w.heap.size w wr ∧ Blk wr p5 G.cells 30) (fun i _ => 64 - (intOf i).toNat)
    case atStart => exact ⟨0, by omega, rfl, hbel, hA⟩
    case round =>
      clear hbel hA
      obtain ⟨k, hk, rfl, hbel, hA⟩ := hrel
      have bk : (0 : Int) ≤ k := by omega
      by_cases hlt : k < 64
      · have bl : (k : Int) < 64 := by omega
        have his := a2Is_any G k hok hlt wr
        cases hc : isC G k <;> rw [hc] at his
        · go_wp2_with (first | (refine wpList_load_blk rfl rfl rfl row66 hA (Gr.size _) ?_) | (go_at_call 37; refine his.mono ?_; rintro e Wa ⟨rfl, hba⟩; replace hA := hA.below hba hA.lt; replace hbel := hbel.trans (hba.mono hbel.size)))
          go_roundw
          case rel => exact ⟨k + 1, by omega, by go_num, hbel, hA⟩
          case measure => simp [intOf]; omega
        · go_upto_region 19 with (first | (refine wpList_load_blk rfl rfl rfl row66 hA (Gr.size _) ?_) | (go_at_call 37; refine his.mono ?_; rintro e Wa ⟨rfl, hba⟩; replace hA := hA.below hba hA.lt; replace hbel := hbel.trans (hba.mono hbel.size)))
          clear hba his
          obtain ⟨l1, l2⟩ := HLH.out k hlt hc
          have l3 := flt_eq (G.hea k) lo
          have l4 := fgt_eq (G.hea k) hi
          rw [l1] at l3
          rw [l2] at l4
          have c1 := hA.gat.getH k hlt
          go_upto_region 21 with fail
          clear c1 l1 l2 l3 l4
          go_wp2_with fail
          go_loopw [21] (fun i ws => ∃ s : Nat, s ≤ 4 ∧ i = .int .i64 s ∧ Below w.heap.size w ws ∧ Blk ws p5 G.cells 30) (fun i _ => 4 - (intOf i).toNat)
          case atStart => exact ⟨0, by omega, rfl, hbel, hA⟩
          case round =>
            clear hbel hA
            obtain ⟨s, hs4, rfl, hbel, hA⟩ := hrel
            have bs : (0 : Int) ≤ s := by omega
            by_cases hls : s < 4
            · have bls : (s : Int) < 4 := by omega
              have hq := flwS_num HG.out hlt hc s hls
              have hbc := fun w' => besideCell_any G k s hok hvl hlt hc hls w'
              have hfl := fun w' => flowFrom_any G k s hok HG.out.sm hvl hlt hc hls hq.1 hq.2 w'
              have hsl := fun w' => specFlowFrom_any G k s hok HG.out.sm hvl hlt hc hls hq.1 hq.2 w'
              have hsn := fun w' => sameNumberS_cn (x := flwS G k s) (y := flwS G k s) rfl w'
              cases hn : nbr G k s
              · have e1 : besR G k s = .tuple #[.int .i64 0, .int .i64 6] := by unfold besR; rw [hn]; rfl
                have e2 : flwS G k s = 0 := by unfold flwS; rw [hn]; rfl
                rw [e1] at hbc
                rw [e2] at hfl hsl hsn
                clear e1 e2 hq hn
                go_wp2_with (first | (refine wpList_load_blk rfl rfl rfl row66 hA (Gr.size _) ?_) | (go_at_call 38; refine (hbc _).mono ?_; rintro e Wb ⟨rfl, hb⟩; replace hA := hA.below hb hA.lt; replace hbel := hbel.trans (hb.mono hbel.size); clear hb) | (go_at_call 39; refine (hfl _).mono ?_; rintro e Wc ⟨rfl, hc⟩; replace hA := hA.below hc hA.lt; replace hbel := hbel.trans (hc.mono hbel.size); clear hc) | (go_at_call 40; refine (hsl _).mono ?_; rintro e Wd ⟨rfl, hd⟩; replace hA := hA.below hd hA.lt; replace hbel := hbel.trans (hd.mono hbel.size); clear hd) | (go_at_call 20; refine (hsn _).mono ?_; rintro e w' ⟨rfl, hw⟩; rw [hw]; clear hw w'))
                go_roundw
                case rel => exact ⟨s + 1, by omega, by go_num, hbel, hA⟩
                case measure => simp [intOf]; omega
              · have e1 : besR G k s = .tuple #[.int .i64 (nx G k s : Nat), .int .i64 0] := by unfold besR; rw [hn]; rfl
                rw [e1] at hbc
                obtain ⟨n1, n2, n3⟩ := nbr_back HG.out.sm hlt hc hls hn
                have n4 := nx_lt HG.out.sm k s
                have e2 : besR G (nx G k s) (opp s) = .tuple #[.int .i64 k, .int .i64 0] := by unfold besR; rw [n2, n3]; rfl
                have hq2 := flwS_num HG.out n4 n1 (opp s) (opp_lt s)
                have hbc2 := fun w' => besideCell_any G (nx G k s) (opp s) hok hvl n4 n1 (opp_lt s) w'
                have hfl2 := fun w' => flowFrom_any G (nx G k s) (opp s) hok HG.out.sm hvl n4 n1 (opp_lt s) hq2.1 hq2.2 w'
                rw [e2] at hbc2
                obtain ⟨fs, hsum, hsum2⟩ := flow_sum2 HG.out hlt hc hls hn
                have hj1 := fun w' => joint_val HG.out hlt n4 w'
                have hj2 := fun w' => joint_val HG.out n4 hlt w'
                rw [joint_comm (G.con (nx G k s)) (G.con k)] at hj2
                generalize joint (G.con k) (G.con (nx G k s)) = J at *
                have e3 : ((opp s : Nat) : Int) = Int.tmod ((s : Int) + 2) 4 := by unfold opp; rw [Int.tmod_eq_emod_of_nonneg (by omega)]; omega
                rw [e3] at hbc2 hfl2
                generalize flwS G (nx G k s) (opp s) = fb at *
                generalize flwS G k s = fa at *
                generalize nx G k s = q at *
                have bq : (0 : Int) ≤ q := by omega
                have bq2 : (q : Int) < 64 := by omega
                clear e1 e2 e3 hq hq2 n1 n2 n3 hn
                go_upto_region 32 with (first | (refine wpList_load_blk rfl rfl rfl row66 hA (Gr.size _) ?_) | (go_at_call 38; refine (hbc _).mono ?_; rintro e Wb ⟨rfl, hb⟩; replace hA := hA.below hb hA.lt; replace hbel := hbel.trans (hb.mono hbel.size); clear hb) | (go_at_call 39; refine (hfl _).mono ?_; rintro e Wc ⟨rfl, hc⟩; replace hA := hA.below hc hA.lt; replace hbel := hbel.trans (hc.mono hbel.size); clear hc) | (go_at_call 40; refine (hsl _).mono ?_; rintro e Wd ⟨rfl, hd⟩; replace hA := hA.below hd hA.lt; replace hbel := hbel.trans (hd.mono hbel.size); clear hd) | (go_at_call 20; refine (hsn _).mono ?_; rintro e w' ⟨rfl, hw⟩; rw [hw]; clear hw w'))
                clear hbc hfl hsl hsn
                go_upto_region 34 with (first | (refine wpList_load_blk rfl rfl rfl row66 hA (Gr.size _) ?_) | (go_at_call 39; refine (hfl2 _).mono ?_; rintro e Wf ⟨rfl, hf⟩; replace hA := hA.below hf hA.lt; replace hbel := hbel.trans (hf.mono hbel.size); clear hf) | (go_at_call 38; refine (hbc2 _).mono ?_; rintro e Wg ⟨rfl, hg⟩; replace hA := hA.below hg hA.lt; replace hbel := hbel.trans (hg.mono hbel.size); clear hg))
                have c1 := hA.gat.getC k hlt
                have c2 := hA.gat.getC q n4
                have hkk : ((k : Int) != k) = false := by simp
                clear hfl2 hbc2
                have hsj := fun w' => sameNumberS_cn (x := J) (y := J) rfl w'
                have hs1 : fcnt .add fb fa = 0 := fcnt_some hsum
                have hs2 : ∀ w', fres .add fb fa w' = fs := fun w' => fres_some hsum
                clear hsum
                go_wp2_with fail
                go_quiet (first | (go_at_call 41; exact Calls.quiet_of (hj1 _)) | (go_at_call 41; exact Calls.quiet_of (hj2 _)) | (go_at_call 20; exact Calls.quiet_of_same (hsj _)))
                go_wp2_with fail
                go_roundw
                case rel => exact ⟨s + 1, by omega, by go_num, below_drewN hbel _, hA⟩
                case measure => simp [intOf]; omega
            · obtain rfl : s = 4 := by omega
              go_wp2_with fail
              go_roundw
              case rel => exact ⟨k + 1, by omega, by go_num, hbel, hA⟩
              case measure => simp [intOf]; omega
      · obtain rfl : k = 64 := by omega
        go_wp2_with fail
        go_ret
        exact ⟨rfl, hbel⟩
end Go.Proofs.YtdnnjahdcabdmaaGreatDoor
