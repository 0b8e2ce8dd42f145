import Derived.Test.YtdnnjahdcabdmaaGreatDoorMO35
import Derived.Test.YtdnnjahdcabdmaaGreatDoorMO37
import Derived.Test.YtdnnjahdcabdmaaGreatDoorMO38
import Derived.Test.YtdnnjahdcabdmaaGreatDoorMO39
import Derived.Test.YtdnnjahdcabdmaaGreatDoorMO34
import Derived.Deep.CutRange
/- The law over offices (FnOffices): the walk through the law's own function. -/
namespace Go.Proofs.YtdnnjahdcabdmaaGreatDoor
open Go.ChangeShapes Go.WideShapes Go.ChangeAt Go.RowKit
set_option linter.unusedVariables false
set_option linter.unusedSimpArgs false
attribute [local irreducible] Calls

theorem wpList_load_wantG {P : Program} {ops : Array Oper} {rest : List Oper} {o : Oper} {a : Act} {Q : Exit → Act → World → Prop} {w : World} {ty t : TypeId} {x : Operand} {b n : Nat} {C : Array Value} (hw : Region.wanted o (yielded ops a.tmps) = true) (ho : o.op = .load ty x) (hx : a.eval x = .pointer (some ⟨b, 0, none⟩)) (hr : RowTy P ty n) (hb : Blk w b C t) (hs : C.size = n)
    (h : wpList P ops Q rest (a.put o.dst (.agg C)) w) : wpList P ops Q (o :: rest) a w := by
  obtain ⟨d, hu, hd, hi⟩ := hr
  exact wpList_step fun K hK => by
    simp only [hw, if_true]
    exact wp_load_row ty x ho b hx t C (0, 0) d hb hu (by cases d <;> simp_all) (by rw [hi, hs]) (hK _ _ h)
theorem load_part {P : Program} {ev : Operand → Value} {w : World} {ty t : TypeId} {x : Operand} {b f n : Nat} {D : Array Value} {pos : String} {dst : Option Tmp} {tt : TypeId} {af : Array Edge} {gd : Option (Nat × Bool)} (hx : ev x = .pointer (some ⟨b, f, none⟩)) (hr : RowTy P ty n) (hb : Blk w b D t) {E : Array Value} (hs : f + n ≤ D.size) (hE : D.extract f (f + n) = E) : (execOp ev { dst := dst, op := .load ty x, type := tt, pos := pos, after := af, guard := gd }).run P w = .ok (.value (.agg E)) w := by
  subst hE
  obtain ⟨d, hu, hd, hi⟩ := hr
  have hl : (D.extract f (f + n)).toList.length = n := by simp; omega
  have hl2 := run_loadVar_mid (P := P) w b f ty (D.extract f (f + n)).toList d (World.rangeAt_of_block hb f n) hu hd (by rw [hi, hl])
  rw [Array.toArray_toList] at hl2
  simp [execOp, hx, Instr.loadAt, Instr.sureAddr, hl2]
theorem psl_congr {w : World} {v : Value} {n : Nat} {P P' : Nat → Pm} (h : PSl w v n P) (he : ∀ i, i < n → P i = P' i) : PSl w v n P' := by
  obtain ⟨a, cap, rfl, h1, h2, h3⟩ := h
  refine ⟨a, cap, rfl, h1, h2, ?_⟩
  rcases h3 with h3 | ⟨b, o, rfl, hlt, hc⟩
  · exact .inl h3
  · exact .inr ⟨b, o, rfl, hlt, fun i c hi hcc => by rw [← he i hi]; exact hc i c hi hcc⟩
theorem fgt_num {a b : Nat} (h : fgt a b = true) : isN .f32 a = false := by
  cases hn : isN .f32 a
  · rfl
  · unfold fgt at h
    rw [order_nan_left (k := .f32) (x := a) (y := b) hn] at h
    cases h
theorem OfFacts.num {g : Gr} {n m : Nat} {P : Nat → Wt} {Q : Nat → Pm} (h : OfFacts g n P m Q) : isN .f32 (fbT g n P m Q).2.1 = false := by
  by_cases h0 : (gwT g n P m Q).2 = 0
  · rcases h.fbc h0 with h1 | h1
    · exact fgt_num (h.pos h0 h1).2.2
    · unfold fbT at h1 ⊢
      rw [if_pos h0] at h1 ⊢
      split
      · show isN .f32 0 = false; decide
      · rename_i hx; rw [if_neg hx] at h1; simp at h1
  · unfold fbT
    rw [if_neg h0]; show isN .f32 0 = false; decide
/-- What lies in memory all along: the office at block b, its watches, the permits at block r. -/
def StO (w0 : World) (b : Nat) (G : Gr) (u : Value) (n : Nat) (P : Nat → Wt) (r : Nat) (x : Value) (m : Nat) (Q : Nat → Pm) (w : World) : Prop := Blk w b (ofc G u) 33 ∧ WSl w u n P ∧ Own w r 59 3 x m (pls m Q) ∧ Below w0.heap.size w0 w
theorem StO.below {w0 : World} {b : Nat} {G : Gr} {u : Value} {n : Nat} {P : Nat → Wt} {r : Nat} {x : Value} {m : Nat} {Q : Nat → Pm} {w w' : World} (h : StO w0 b G u n P r x m Q w) (hb : Below w.heap.size w w') : StO w0 b G u n P r x m Q w' :=
  ⟨h.1.below hb h.1.lt, h.2.1.below hb, h.2.2.1.below hb h.2.2.1.lt, h.2.2.2.trans (hb.mono h.2.2.2.size)⟩
set_option maxRecDepth 100000 in
set_option maxHeartbeats 8000000 in
theorem lawOffices (v1 : Value) (n1 : Nat) (v2 : Value) (n2 : Nat) (w : World) (h1 : BSl w v1 n1) (h2 : BSl w v2 n2) (hV : ParseVars w) (htab : Lib.TabIs Tryz.prog w "internal/strconv.uint64pow10" .u64 Lib.pow10Tab) (mx : Int) (hmx : w.cell? ⟨1, 0, none⟩ = some (.int .i64 mx)) :
    Calls Tryz.prog 3 #[v1, v2] w fun e w' => e = .returned (.bool true) ∧ Below w.heap.size w w' := by
  have h1' := h1
  have h2' := h2
  obtain ⟨a1, c1, rfl, m1, _⟩ := h1'
  obtain ⟨a2, c2, rfl, m2, _⟩ := h2'
  have hlong := fun w' => a2Long_any a1 a2 n1 n2 c1 c2 m1 m2 w'
  by_cases hl : 3000 < n1 ∨ 3000 < n2
  · have hd : (decide (3000 < n1) || decide (3000 < n2)) = true := by simp; exact hl
    rw [hd] at hlong
    clear hd hl h1 h2 m1 m2 hV htab hmx
    go_enter Tryz.func3, Tryz.ntmps3
    go_wp2_with (go_at_call 5; refine (hlong _).mono ?_; rintro e w' ⟨rfl, hw⟩; rw [hw]; clear hw w')
    go_ret
    exact ⟨rfl, Below.refl _ _⟩
  have hd : (decide (3000 < n1) || decide (3000 < n2)) = false := by simp; omega
  rw [hd] at hlong
  have q1 : n1 ≤ 4096 := by omega
  have q2 : n2 ≤ 4096 := by omega
  have hof := a2Office_any _ _ w (h1.bytes q1)
  have hpe := fun G u hW hH w' (hb : Below w.heap.size w w') => a2Permits_any _ _ G u hW hH w' ((h2.below hb).bytes q2)
  have HCE := Lib.hid fun G hW hH w' (hb : Below w.heap.size w w') => a2Cell_any _ _ G hW hH w' ((h2.below hb).bytes q2)
  have HV := Lib.hid hV
  have HT := Lib.hid htab
  have HM := Lib.hid hmx
  clear hd hl h1 m1 m2 h2 hV htab hmx
  have size76 : (Tryz.prog.info? 33).map (·.size) = some 196 := by kernel_rfl
  go_enter Tryz.func3, Tryz.ntmps3
  go_upto_region 4 with (first | (go_at_call 5; refine (hlong _).mono ?_; rintro e w' ⟨rfl, hw⟩; rw [hw]; clear hw w') | (go_at_call 6; refine hof.mono ?_; rintro e w1 ⟨G, u, n, P, hG, hn, hP, rfl, hL, hbel⟩) | (refine wpList_alloc_as rfl rfl zero76 ?_) | (refine wpList_store_last (c' := ofc G u) rfl rfl rfl rfl rfl (by rw [ofc_size]; exact size76) (by rw [ofc_size, ofc_size]) (List.all_eq_true.2 (ofc_one _ _ hL.one)) ?_))
  have hA := Blk.new w1 (ofc G u) 33
  have hWS := (hL.alloc (.cells (ofc G u) 33)).wsl
  have hbel := hbel.alloc hbel.size (.cells (ofc G u) 33)
  generalize w1.alloc (.cells (ofc G u) 33) = W1 at *
  generalize w1.heap.size = p5 at *
  have hGp := validG_parts hG.valid
  have hpe := hpe G u (by have := hG.small; omega) (by have := hG.small; omega) W1 hbel
  clear hof hlong size76 hL
  go_upto_region 5 with (first | (refine wpList_load_blk rfl rfl rfl row76 hA (ofc_size _ _) ?_) | (go_at_call 7; refine hpe.mono ?_; rintro e W2 ⟨x, r, m, Q, hm, rfl, hr, hQ, hX, hb2⟩))
  have hS : StO w p5 G u n P r x m Q W2 := ⟨hA.below hb2 hA.lt, hWS.below hb2, hX, hbel.trans (hb2.mono hbel.size)⟩
  obtain ⟨cx, rfl, hcx, hcxm⟩ := hX.form
  clear hb2 hX hr hpe hA hWS hbel
  have hPk : ∀ i, i < n → (P i).ok := fun i hi => (hP i hi).1
  have hQk : ∀ i, i < m → (Q i).ok := fun i hi => (hQ i hi).1
  have hQb : ∀ i, i < m → badPG G (Q i) = false := fun i hi => (hQ i hi).2
  have hVO := validO_of hG.valid hn hP
  have hVP := validP_of hVO hm hQb
  have OF := of_facts hG hG.gai_lt hn hP hm hQb
  have hok := hG.ok
  have hpt := plainPt_of hm hQb
  have hSH := shares_of hm (fun i hi => by
    have h := hQb i hi
    unfold badPG at h
    revert h
    cases badOwner (Q i) <;> cases badRate (Q i) <;> simp)
  have hSum := sum_shares m (fun i hi => by
    have h := hQb i hi
    unfold badPG at h
    revert h
    cases badOwner (Q i) <;> simp)
  have hRat : ∀ i, i < m → 0 ≤ (Q i).rat ∧ (Q i).rat ≤ 400 := fun i hi => by
    have h := hQb i hi
    unfold badPG badRate at h
    simp at h; omega
  have hGD := rd_good (l := txtPm Q m) ⟨m, Q, hpt, rfl⟩
  have hRT := rd_txt hpt
  have hTL := txtPm_len (P := Q) (k := m) (plainPt_parts hpt).2

  have hN0 := OF.num
  obtain ⟨f_code, f_lvn, f_ak, f_fbc, f_low, f_pos, f_idle0⟩ := OF
  have f_idle : ∀ c : Nat, c < 64 → isC G c = true → ∀ Q' : Nat → Pm, (∀ i, i < m → Q' i = Q i) → Q' m = ⟨0, c, 0⟩ → (gwT G n P (m + 1) Q').1 = (gwT G n P m Q).1 ∧ (gwT G n P (m + 1) Q').2 = (gwT G n P m Q).2 := fun c a b Q' d e => by rw [f_idle0 c a b Q' d e]; exact ⟨rfl, rfl⟩
  clear f_idle0
  have htx : ∀ w', StO w p5 G u n P r (.slice (some ⟨r, 0, none⟩) m cx) m Q w' → Calls Tryz.prog 9 #[.slice (some ⟨r, 0, none⟩) m cx] w' fun e w'' => e = .returned (.string ⟨(txtPm Q m).toArray⟩) ∧ Below w'.heap.size w' w'' := fun w' h => by
    have h1 := permitsTextI_any m Q hQk _ w' h.2.2.1.psl (tab_below HT.out h.2.2.2)
    rw [hpt, if_pos rfl] at h1
    exact h1
  have hrp : ∀ w', Below w.heap.size w w' → Calls Tryz.prog 8 #[.string ⟨(txtPm Q m).toArray⟩] w' fun e w'' => ∃ v, e = .returned (.tuple #[v, .int .i64 0]) ∧ PSl w'' v m Q ∧ Below w'.heap.size w' w'' := fun w' hb => by
    have h1 := readPermitsI_any ⟨(txtPm Q m).toArray⟩ (by rw [size_of]; omega) w' (HV.out.below hb) (tab_below HT.out hb) mx ((hb.cell (p := ⟨1, 0, none⟩) (Lib.lt_of_cell HM.out)).trans HM.out)
    rw [show (⟨(txtPm Q m).toArray⟩ : ByteArray).data.toList = txtPm Q m by simp, hGD.1, hGD.2, hRT.1] at h1
    refine h1.mono ?_
    rintro e w'' ⟨v, rfl, rr, _, hres, hbel⟩
    exact ⟨v, rfl, psl_congr hres.psl fun i hi => (hRT.2 i hi).2.1, hbel⟩
  have hgw := fun w' (h : StO w p5 G u n P r (.slice (some ⟨r, 0, none⟩) m cx) m Q w') => groundWith_any G u _ n m P Q hok hPk hQk w' h.2.1 h.2.2.1.psl
  have hsg := fun w' (h : StO w p5 G u n P r (.slice (some ⟨r, 0, none⟩) m cx) m Q w') => specGroundWith_any G u _ n m P Q hok hPk hQk w' h.2.1 h.2.2.1.psl
  have hlw := fun w' (h : StO w p5 G u n P r (.slice (some ⟨r, 0, none⟩) m cx) m Q w') => levelsWith_any G u _ n m P Q hok hPk hQk w' h.2.1 h.2.2.1.psl
  have hfb : ∀ w', StO w p5 G u n P r (.slice (some ⟨r, 0, none⟩) m cx) m Q w' → Calls Tryz.prog 13 #[.agg (ofc G u), .slice (some ⟨r, 0, none⟩) m cx] w' fun e w'' => e = .returned (.tuple #[.int .i64 (fbT G n P m Q).1, .float .f32 (fbT G n P m Q).2.1, .int .i64 (fbT G n P m Q).2.2]) ∧ Below w'.heap.size w' w'' := fun w' h => by
    refine (firstBelow_any G u _ n m P Q hok hPk hQk w' h.2.1 h.2.2.1.psl).mono ?_
    rintro e w'' ⟨fb, rfl, hfb, hb⟩
    exact ⟨by rw [al_eq hfb hN0], hb⟩
  have hsf : ∀ w', StO w p5 G u n P r (.slice (some ⟨r, 0, none⟩) m cx) m Q w' → Calls Tryz.prog 14 #[.agg (ofc G u), .slice (some ⟨r, 0, none⟩) m cx] w' fun e w'' => e = .returned (.tuple #[.int .i64 (fbT G n P m Q).1, .float .f32 (fbT G n P m Q).2.1, .int .i64 (fbT G n P m Q).2.2]) ∧ Below w'.heap.size w' w'' := fun w' h => by
    refine (specFirstBelow_any G u _ n m P Q hok hPk hQk w' h.2.1 h.2.2.1.psl).mono ?_
    rintro e w'' ⟨fb, rfl, hfb, hb⟩
    exact ⟨by rw [al_eq hfb hN0], hb⟩
  have hak := fun w' (h : StO w p5 G u n P r (.slice (some ⟨r, 0, none⟩) m cx) m Q w') => areKept_any G u _ n m P Q hok hPk hQk w' h.2.1 h.2.2.1.psl
  have hvo := fun w' (h : StO w p5 G u n P r (.slice (some ⟨r, 0, none⟩) m cx) m Q w') => validOffice_any G u n P hok hPk w' h.2.1
  have hvp := fun w' (h : StO w p5 G u n P r (.slice (some ⟨r, 0, none⟩) m cx) m Q w') => validPermits_any G u _ n m P Q hok hPk hQk w' h.2.1 h.2.2.1.psl
  have hsm := fun y w' (h : StO w p5 G u n P r (.slice (some ⟨r, 0, none⟩) m cx) m Q w') (h2 : PSl w' y m Q) => a2SamePermits_self m Q y _ w' hQk h2 h.2.2.1.psl
  have hsh := fun w' (h : StO w p5 G u n P r (.slice (some ⟨r, 0, none⟩) m cx) m Q w') => shares_any m Q hQk _ w' h.2.2.1.psl
  have HGI := Lib.hid fun Q' y (hq : ∀ i, i < m + 1 → (Q' i).ok) w' (h : StO w p5 G u n P r (.slice (some ⟨r, 0, none⟩) m cx) m Q w') (h2 : PSl w' y (m + 1) Q') => groundWith_any G u y n (m + 1) P Q' hok hPk hq w' h.2.1 h2
  have hsgr := fun w' => sameGround_self (gwT G n P m Q).1 w'
  have hsn := fun x w' => sameNumber_self x w'
  rw [f_ak] at hak
  rw [hVO] at hvo
  rw [hVP] at hvp
  rw [hSH] at hsh
  generalize (gwT G n P m Q).1 = R at *
  generalize (gwT G n P m Q).2 = C at *
  generalize (fbT G n P m Q).1 = K at *
  generalize (fbT G n P m Q).2.1 = Z at *
  generalize (fbT G n P m Q).2.2 = T3 at *
  generalize lvN G n P m Q = N at *
  generalize txtPm Q m = T at *
  have HQK := Lib.hid hQk
  have HIDLE := Lib.hid f_idle
  have HRAT := Lib.hid hRat
  have HSUM := Lib.hid hSum
  have HLOW := Lib.hid f_low
  have HPOS := Lib.hid f_pos
  have HFBC := Lib.hid f_fbc
  have HLVN := Lib.hid f_lvn
  have HCODE := Lib.hid f_code
  have HGW := Lib.hid hG
  have HN3 := Lib.hid hn
  have HPW := Lib.hid hP
  clear hN0 hpt hGD hRT hTL hG hP hQ hQb hVO hVP f_ak f_idle hRat hSum f_low f_pos f_fbc f_lvn f_code hSH hGp hPk hQk
  go_upto_region 6 with (first | (go_at_call 9; refine (htx _ hS).mono ?_; rintro e W3 ⟨rfl, hb3⟩; replace hS := hS.below hb3) | (go_at_call 8; refine (hrp _ hS.2.2.2).mono ?_; rintro e W4 ⟨v7, rfl, hP7, hb4⟩; replace hS := hS.below hb4))
  clear htx hrp
  go_upto_region 7 with (first | (refine wpList_load_blk rfl rfl rfl row76 hS.1 (ofc_size _ _) ?_) | (go_at_call 10; refine (hgw _ hS).mono ?_; rintro e W5 ⟨rfl, hb5⟩; replace hS := hS.below hb5; replace hP7 := hP7.below hb5) | (refine wpList_alloc_as rfl rfl zero66 ?_) | (refine wpList_store_last (c' := R.cells) rfl rfl rfl rfl rfl (by rw [Gr.size]; kernel_rfl) (by rw [Gr.size, Gr.size]) (List.all_eq_true.2 (Gr.one _)) ?_))
  have hB9 := Blk.new W5 R.cells 30
  have hS5 := hS
  have hS := hS.below (below1 W5 (.cells R.cells 30))
  have hP7 := hP7.below (below1 W5 (.cells R.cells 30))
  generalize W5.alloc (.cells R.cells 30) = W6 at *
  generalize W5.heap.size = q9 at *
  clear hS5 hgw
  go_upto_region 8 with (first | (refine wpList_load_blk rfl rfl rfl row76 hS.1 (ofc_size _ _) ?_) | (go_at_call 11; refine (hsg _ hS).mono ?_; rintro e W7 ⟨rfl, hb7⟩; replace hS := hS.below hb7; replace hP7 := hP7.below hb7; replace hB9 := hB9.below hb7 hB9.lt) | (refine wpList_alloc_as rfl rfl zero66 ?_) | (refine wpList_store_last (c' := R.cells) rfl rfl rfl rfl rfl (by rw [Gr.size]; kernel_rfl) (by rw [Gr.size, Gr.size]) (List.all_eq_true.2 (Gr.one _)) ?_))
  have hB11 := Blk.new W7 R.cells 30
  have hS := hS.below (below1 W7 (.cells R.cells 30))
  have hP7 := hP7.below (below1 W7 (.cells R.cells 30))
  have hB9 := hB9.alloc (.cells R.cells 30)
  generalize W7.alloc (.cells R.cells 30) = W8 at *
  generalize W7.heap.size = q11 at *
  clear hsg
  go_upto_region 9 with (first | (refine wpList_load_blk rfl rfl rfl row76 hS.1 (ofc_size _ _) ?_) | (go_at_call 12; refine (hlw _ hS).mono ?_; rintro e W9 ⟨v13, r13, rfl, hr13, hR13, hb9⟩; replace hS := hS.below hb9; replace hP7 := hP7.below hb9; replace hB9 := hB9.below hb9 hB9.lt; replace hB11 := hB11.below hb9 hB11.lt))
  have hR13 := hR13
  go_upto_region 11 with (first | (refine wpList_load_blk rfl rfl rfl row76 hS.1 (ofc_size _ _) ?_) | (go_at_call 13; refine (hfb _ hS).mono ?_; rintro e W10 ⟨rfl, hb10⟩; replace hS := hS.below hb10; replace hP7 := hP7.below hb10; replace hB9 := hB9.below hb10 hB9.lt; replace hB11 := hB11.below hb10 hB11.lt; replace hR13 := hR13.below hb10) | (go_at_call 14; refine (hsf _ hS).mono ?_; rintro e W11 ⟨rfl, hb11⟩; replace hS := hS.below hb11; replace hP7 := hP7.below hb11; replace hB9 := hB9.below hb11 hB9.lt; replace hB11 := hB11.below hb11 hB11.lt; replace hR13 := hR13.below hb11))
  have hcs : (C = 0 ∧ T3 = 6) ∨ (C = 0 ∧ T3 = 0) ∨ C = 4 ∨ C = 7 := by
    rcases HCODE.out with h | h | h
    · rcases HFBC.out h with h' | h'
      · exact .inr (.inl ⟨h, h'⟩)
      · exact .inl ⟨h, h'⟩
    · exact .inr (.inr (.inl h))
    · exact .inr (.inr (.inr h))
  have hKK : (K != K) = false := by simp
  clear hb3 hb4 hb5 hb7 hb9 hb10 hb11 hlw hfb hsf hr13
  obtain ⟨Bk, hBK⟩ : ∃ Bk, Bk = (decide (C = 0) && decide (T3 = 6)) := ⟨_, rfl⟩
  rw [← hBK] at hak
  have HBK := Lib.hid hBK
  clear hBK
  go_upto_region 12 with (first | (refine wpList_load_blk rfl rfl rfl row76 hS.1 (ofc_size _ _) ?_) | (go_at_call 15; refine (hak _ hS).mono ?_; rintro e Wa ⟨rfl, hba⟩; replace hS := hS.below hba; replace hP7 := hP7.below hba; replace hB9 := hB9.below hba hB9.lt; replace hB11 := hB11.below hba hB11.lt; replace hR13 := hR13.below hba))
  clear hba
  go_cut [150] from 86 to 150 (fun c wx => c = .bool false ∧ Below Wa.heap.size Wa wx)
  case first =>
    rcases hcs with ⟨rfl, rfl⟩ | ⟨rfl, rfl⟩ | rfl | rfl
    · clear hak
      have hBk : Bk = true := by rw [HBK.out]; decide
      clear HBK
      subst hBk
      have hdum := trivial
      go_wp2_with (first | (go_at_call 16; refine (hsm _ _ hS hP7).mono ?_; rintro e Wb ⟨rfl, hbb⟩; replace hS := hS.below hbb; replace hB9 := hB9.below hbb hB9.lt; replace hB11 := hB11.below hbb hB11.lt) | (go_at_call 17; refine (hvo _ hS).mono ?_; rintro e Wc ⟨rfl, hbc⟩; replace hS := hS.below hbc; replace hB9 := hB9.below hbc hB9.lt; replace hB11 := hB11.below hbc hB11.lt) | (go_at_call 18; refine (hvp _ hS).mono ?_; rintro e Wd ⟨rfl, hbd⟩; replace hS := hS.below hbd; replace hB9 := hB9.below hbd hB9.lt; replace hB11 := hB11.below hbd hB11.lt) | (go_at_call 19; refine (hsgr _).mono ?_; rintro e We ⟨rfl, hbe⟩) | (go_at_call 20; refine (hsn _ _).mono ?_; rintro e w' ⟨rfl, hw⟩; rw [hw]; clear hw w'))
      refine wpList_load_wantG rfl rfl rfl row76 hS.1 (ofc_size _ _) ?_
      go_wp2_with (first | (go_at_call 16; refine (hsm _ _ hS hP7).mono ?_; rintro e Wb ⟨rfl, hbb⟩; replace hS := hS.below hbb; replace hB9 := hB9.below hbb hB9.lt; replace hB11 := hB11.below hbb hB11.lt) | (go_at_call 17; refine (hvo _ hS).mono ?_; rintro e Wc ⟨rfl, hbc⟩; replace hS := hS.below hbc; replace hB9 := hB9.below hbc hB9.lt; replace hB11 := hB11.below hbc hB11.lt) | (go_at_call 18; refine (hvp _ hS).mono ?_; rintro e Wd ⟨rfl, hbd⟩; replace hS := hS.below hbd; replace hB9 := hB9.below hbd hB9.lt; replace hB11 := hB11.below hbd hB11.lt) | (go_at_call 19; refine (hsgr _).mono ?_; rintro e We ⟨rfl, hbe⟩) | (go_at_call 20; refine (hsn _ _).mono ?_; rintro e w' ⟨rfl, hw⟩; rw [hw]; clear hw w'))
      refine wpList_load_wantG rfl rfl rfl row76 hS.1 (ofc_size _ _) ?_
      go_wp2_with (first | (go_at_call 16; refine (hsm _ _ hS hP7).mono ?_; rintro e Wb ⟨rfl, hbb⟩; replace hS := hS.below hbb; replace hB9 := hB9.below hbb hB9.lt; replace hB11 := hB11.below hbb hB11.lt) | (go_at_call 17; refine (hvo _ hS).mono ?_; rintro e Wc ⟨rfl, hbc⟩; replace hS := hS.below hbc; replace hB9 := hB9.below hbc hB9.lt; replace hB11 := hB11.below hbc hB11.lt) | (go_at_call 18; refine (hvp _ hS).mono ?_; rintro e Wd ⟨rfl, hbd⟩; replace hS := hS.below hbd; replace hB9 := hB9.below hbd hB9.lt; replace hB11 := hB11.below hbd hB11.lt) | (go_at_call 19; refine (hsgr _).mono ?_; rintro e We ⟨rfl, hbe⟩) | (go_at_call 20; refine (hsn _ _).mono ?_; rintro e w' ⟨rfl, hw⟩; rw [hw]; clear hw w'))
      refine wpList_load_wantG rfl rfl rfl row66 hB9 (Gr.size _) ?_
      refine wpList_load_wantG rfl rfl rfl row66 hB11 (Gr.size _) ?_
      go_wp2_with (first | (go_at_call 16; refine (hsm _ _ hS hP7).mono ?_; rintro e Wb ⟨rfl, hbb⟩; replace hS := hS.below hbb; replace hB9 := hB9.below hbb hB9.lt; replace hB11 := hB11.below hbb hB11.lt) | (go_at_call 17; refine (hvo _ hS).mono ?_; rintro e Wc ⟨rfl, hbc⟩; replace hS := hS.below hbc; replace hB9 := hB9.below hbc hB9.lt; replace hB11 := hB11.below hbc hB11.lt) | (go_at_call 18; refine (hvp _ hS).mono ?_; rintro e Wd ⟨rfl, hbd⟩; replace hS := hS.below hbd; replace hB9 := hB9.below hbd hB9.lt; replace hB11 := hB11.below hbd hB11.lt) | (go_at_call 19; refine (hsgr _).mono ?_; rintro e We ⟨rfl, hbe⟩) | (go_at_call 20; refine (hsn _ _).mono ?_; rintro e w' ⟨rfl, hw⟩; rw [hw]; clear hw w'))
      go_meet
      exact ⟨rfl, hbb.trans ((hbc.trans ((hbd.trans (hbe.mono hbd.size)).mono hbc.size)).mono hbb.size)⟩
    · clear hak
      have hBk : Bk = false := by rw [HBK.out]; decide
      clear HBK
      subst hBk
      have hdum := trivial
      go_wp2_with (first | (go_at_call 16; refine (hsm _ _ hS hP7).mono ?_; rintro e Wb ⟨rfl, hbb⟩; replace hS := hS.below hbb; replace hB9 := hB9.below hbb hB9.lt; replace hB11 := hB11.below hbb hB11.lt) | (go_at_call 17; refine (hvo _ hS).mono ?_; rintro e Wc ⟨rfl, hbc⟩; replace hS := hS.below hbc; replace hB9 := hB9.below hbc hB9.lt; replace hB11 := hB11.below hbc hB11.lt) | (go_at_call 18; refine (hvp _ hS).mono ?_; rintro e Wd ⟨rfl, hbd⟩; replace hS := hS.below hbd; replace hB9 := hB9.below hbd hB9.lt; replace hB11 := hB11.below hbd hB11.lt) | (go_at_call 19; refine (hsgr _).mono ?_; rintro e We ⟨rfl, hbe⟩) | (go_at_call 20; refine (hsn _ _).mono ?_; rintro e w' ⟨rfl, hw⟩; rw [hw]; clear hw w'))
      refine wpList_load_wantG rfl rfl rfl row76 hS.1 (ofc_size _ _) ?_
      go_wp2_with (first | (go_at_call 16; refine (hsm _ _ hS hP7).mono ?_; rintro e Wb ⟨rfl, hbb⟩; replace hS := hS.below hbb; replace hB9 := hB9.below hbb hB9.lt; replace hB11 := hB11.below hbb hB11.lt) | (go_at_call 17; refine (hvo _ hS).mono ?_; rintro e Wc ⟨rfl, hbc⟩; replace hS := hS.below hbc; replace hB9 := hB9.below hbc hB9.lt; replace hB11 := hB11.below hbc hB11.lt) | (go_at_call 18; refine (hvp _ hS).mono ?_; rintro e Wd ⟨rfl, hbd⟩; replace hS := hS.below hbd; replace hB9 := hB9.below hbd hB9.lt; replace hB11 := hB11.below hbd hB11.lt) | (go_at_call 19; refine (hsgr _).mono ?_; rintro e We ⟨rfl, hbe⟩) | (go_at_call 20; refine (hsn _ _).mono ?_; rintro e w' ⟨rfl, hw⟩; rw [hw]; clear hw w'))
      refine wpList_load_wantG rfl rfl rfl row76 hS.1 (ofc_size _ _) ?_
      go_wp2_with (first | (go_at_call 16; refine (hsm _ _ hS hP7).mono ?_; rintro e Wb ⟨rfl, hbb⟩; replace hS := hS.below hbb; replace hB9 := hB9.below hbb hB9.lt; replace hB11 := hB11.below hbb hB11.lt) | (go_at_call 17; refine (hvo _ hS).mono ?_; rintro e Wc ⟨rfl, hbc⟩; replace hS := hS.below hbc; replace hB9 := hB9.below hbc hB9.lt; replace hB11 := hB11.below hbc hB11.lt) | (go_at_call 18; refine (hvp _ hS).mono ?_; rintro e Wd ⟨rfl, hbd⟩; replace hS := hS.below hbd; replace hB9 := hB9.below hbd hB9.lt; replace hB11 := hB11.below hbd hB11.lt) | (go_at_call 19; refine (hsgr _).mono ?_; rintro e We ⟨rfl, hbe⟩) | (go_at_call 20; refine (hsn _ _).mono ?_; rintro e w' ⟨rfl, hw⟩; rw [hw]; clear hw w'))
      refine wpList_load_wantG rfl rfl rfl row66 hB9 (Gr.size _) ?_
      refine wpList_load_wantG rfl rfl rfl row66 hB11 (Gr.size _) ?_
      go_wp2_with (first | (go_at_call 16; refine (hsm _ _ hS hP7).mono ?_; rintro e Wb ⟨rfl, hbb⟩; replace hS := hS.below hbb; replace hB9 := hB9.below hbb hB9.lt; replace hB11 := hB11.below hbb hB11.lt) | (go_at_call 17; refine (hvo _ hS).mono ?_; rintro e Wc ⟨rfl, hbc⟩; replace hS := hS.below hbc; replace hB9 := hB9.below hbc hB9.lt; replace hB11 := hB11.below hbc hB11.lt) | (go_at_call 18; refine (hvp _ hS).mono ?_; rintro e Wd ⟨rfl, hbd⟩; replace hS := hS.below hbd; replace hB9 := hB9.below hbd hB9.lt; replace hB11 := hB11.below hbd hB11.lt) | (go_at_call 19; refine (hsgr _).mono ?_; rintro e We ⟨rfl, hbe⟩) | (go_at_call 20; refine (hsn _ _).mono ?_; rintro e w' ⟨rfl, hw⟩; rw [hw]; clear hw w'))
      go_meet
      exact ⟨rfl, hbb.trans ((hbc.trans ((hbd.trans (hbe.mono hbd.size)).mono hbc.size)).mono hbb.size)⟩
    · clear hak
      have hBk : Bk = false := by rw [HBK.out]; simp
      clear HBK
      subst hBk
      have hTT : (T3 != T3) = false := by simp
      go_wp2_with (first | (go_at_call 16; refine (hsm _ _ hS hP7).mono ?_; rintro e Wb ⟨rfl, hbb⟩; replace hS := hS.below hbb; replace hB9 := hB9.below hbb hB9.lt; replace hB11 := hB11.below hbb hB11.lt) | (go_at_call 17; refine (hvo _ hS).mono ?_; rintro e Wc ⟨rfl, hbc⟩; replace hS := hS.below hbc; replace hB9 := hB9.below hbc hB9.lt; replace hB11 := hB11.below hbc hB11.lt) | (go_at_call 18; refine (hvp _ hS).mono ?_; rintro e Wd ⟨rfl, hbd⟩; replace hS := hS.below hbd; replace hB9 := hB9.below hbd hB9.lt; replace hB11 := hB11.below hbd hB11.lt) | (go_at_call 19; refine (hsgr _).mono ?_; rintro e We ⟨rfl, hbe⟩) | (go_at_call 20; refine (hsn _ _).mono ?_; rintro e w' ⟨rfl, hw⟩; rw [hw]; clear hw w'))
      refine wpList_load_wantG rfl rfl rfl row76 hS.1 (ofc_size _ _) ?_
      go_wp2_with (first | (go_at_call 16; refine (hsm _ _ hS hP7).mono ?_; rintro e Wb ⟨rfl, hbb⟩; replace hS := hS.below hbb; replace hB9 := hB9.below hbb hB9.lt; replace hB11 := hB11.below hbb hB11.lt) | (go_at_call 17; refine (hvo _ hS).mono ?_; rintro e Wc ⟨rfl, hbc⟩; replace hS := hS.below hbc; replace hB9 := hB9.below hbc hB9.lt; replace hB11 := hB11.below hbc hB11.lt) | (go_at_call 18; refine (hvp _ hS).mono ?_; rintro e Wd ⟨rfl, hbd⟩; replace hS := hS.below hbd; replace hB9 := hB9.below hbd hB9.lt; replace hB11 := hB11.below hbd hB11.lt) | (go_at_call 19; refine (hsgr _).mono ?_; rintro e We ⟨rfl, hbe⟩) | (go_at_call 20; refine (hsn _ _).mono ?_; rintro e w' ⟨rfl, hw⟩; rw [hw]; clear hw w'))
      refine wpList_load_wantG rfl rfl rfl row76 hS.1 (ofc_size _ _) ?_
      go_wp2_with (first | (go_at_call 16; refine (hsm _ _ hS hP7).mono ?_; rintro e Wb ⟨rfl, hbb⟩; replace hS := hS.below hbb; replace hB9 := hB9.below hbb hB9.lt; replace hB11 := hB11.below hbb hB11.lt) | (go_at_call 17; refine (hvo _ hS).mono ?_; rintro e Wc ⟨rfl, hbc⟩; replace hS := hS.below hbc; replace hB9 := hB9.below hbc hB9.lt; replace hB11 := hB11.below hbc hB11.lt) | (go_at_call 18; refine (hvp _ hS).mono ?_; rintro e Wd ⟨rfl, hbd⟩; replace hS := hS.below hbd; replace hB9 := hB9.below hbd hB9.lt; replace hB11 := hB11.below hbd hB11.lt) | (go_at_call 19; refine (hsgr _).mono ?_; rintro e We ⟨rfl, hbe⟩) | (go_at_call 20; refine (hsn _ _).mono ?_; rintro e w' ⟨rfl, hw⟩; rw [hw]; clear hw w'))
      refine wpList_load_wantG rfl rfl rfl row66 hB9 (Gr.size _) ?_
      refine wpList_load_wantG rfl rfl rfl row66 hB11 (Gr.size _) ?_
      go_wp2_with (first | (go_at_call 16; refine (hsm _ _ hS hP7).mono ?_; rintro e Wb ⟨rfl, hbb⟩; replace hS := hS.below hbb; replace hB9 := hB9.below hbb hB9.lt; replace hB11 := hB11.below hbb hB11.lt) | (go_at_call 17; refine (hvo _ hS).mono ?_; rintro e Wc ⟨rfl, hbc⟩; replace hS := hS.below hbc; replace hB9 := hB9.below hbc hB9.lt; replace hB11 := hB11.below hbc hB11.lt) | (go_at_call 18; refine (hvp _ hS).mono ?_; rintro e Wd ⟨rfl, hbd⟩; replace hS := hS.below hbd; replace hB9 := hB9.below hbd hB9.lt; replace hB11 := hB11.below hbd hB11.lt) | (go_at_call 19; refine (hsgr _).mono ?_; rintro e We ⟨rfl, hbe⟩) | (go_at_call 20; refine (hsn _ _).mono ?_; rintro e w' ⟨rfl, hw⟩; rw [hw]; clear hw w'))
      go_meet
      exact ⟨rfl, hbb.trans ((hbc.trans ((hbd.trans (hbe.mono hbd.size)).mono hbc.size)).mono hbb.size)⟩
    · clear hak
      have hBk : Bk = false := by rw [HBK.out]; simp
      clear HBK
      subst hBk
      have hTT : (T3 != T3) = false := by simp
      go_wp2_with (first | (go_at_call 16; refine (hsm _ _ hS hP7).mono ?_; rintro e Wb ⟨rfl, hbb⟩; replace hS := hS.below hbb; replace hB9 := hB9.below hbb hB9.lt; replace hB11 := hB11.below hbb hB11.lt) | (go_at_call 17; refine (hvo _ hS).mono ?_; rintro e Wc ⟨rfl, hbc⟩; replace hS := hS.below hbc; replace hB9 := hB9.below hbc hB9.lt; replace hB11 := hB11.below hbc hB11.lt) | (go_at_call 18; refine (hvp _ hS).mono ?_; rintro e Wd ⟨rfl, hbd⟩; replace hS := hS.below hbd; replace hB9 := hB9.below hbd hB9.lt; replace hB11 := hB11.below hbd hB11.lt) | (go_at_call 19; refine (hsgr _).mono ?_; rintro e We ⟨rfl, hbe⟩) | (go_at_call 20; refine (hsn _ _).mono ?_; rintro e w' ⟨rfl, hw⟩; rw [hw]; clear hw w'))
      refine wpList_load_wantG rfl rfl rfl row76 hS.1 (ofc_size _ _) ?_
      go_wp2_with (first | (go_at_call 16; refine (hsm _ _ hS hP7).mono ?_; rintro e Wb ⟨rfl, hbb⟩; replace hS := hS.below hbb; replace hB9 := hB9.below hbb hB9.lt; replace hB11 := hB11.below hbb hB11.lt) | (go_at_call 17; refine (hvo _ hS).mono ?_; rintro e Wc ⟨rfl, hbc⟩; replace hS := hS.below hbc; replace hB9 := hB9.below hbc hB9.lt; replace hB11 := hB11.below hbc hB11.lt) | (go_at_call 18; refine (hvp _ hS).mono ?_; rintro e Wd ⟨rfl, hbd⟩; replace hS := hS.below hbd; replace hB9 := hB9.below hbd hB9.lt; replace hB11 := hB11.below hbd hB11.lt) | (go_at_call 19; refine (hsgr _).mono ?_; rintro e We ⟨rfl, hbe⟩) | (go_at_call 20; refine (hsn _ _).mono ?_; rintro e w' ⟨rfl, hw⟩; rw [hw]; clear hw w'))
      refine wpList_load_wantG rfl rfl rfl row76 hS.1 (ofc_size _ _) ?_
      go_wp2_with (first | (go_at_call 16; refine (hsm _ _ hS hP7).mono ?_; rintro e Wb ⟨rfl, hbb⟩; replace hS := hS.below hbb; replace hB9 := hB9.below hbb hB9.lt; replace hB11 := hB11.below hbb hB11.lt) | (go_at_call 17; refine (hvo _ hS).mono ?_; rintro e Wc ⟨rfl, hbc⟩; replace hS := hS.below hbc; replace hB9 := hB9.below hbc hB9.lt; replace hB11 := hB11.below hbc hB11.lt) | (go_at_call 18; refine (hvp _ hS).mono ?_; rintro e Wd ⟨rfl, hbd⟩; replace hS := hS.below hbd; replace hB9 := hB9.below hbd hB9.lt; replace hB11 := hB11.below hbd hB11.lt) | (go_at_call 19; refine (hsgr _).mono ?_; rintro e We ⟨rfl, hbe⟩) | (go_at_call 20; refine (hsn _ _).mono ?_; rintro e w' ⟨rfl, hw⟩; rw [hw]; clear hw w'))
      refine wpList_load_wantG rfl rfl rfl row66 hB9 (Gr.size _) ?_
      refine wpList_load_wantG rfl rfl rfl row66 hB11 (Gr.size _) ?_
      go_wp2_with (first | (go_at_call 16; refine (hsm _ _ hS hP7).mono ?_; rintro e Wb ⟨rfl, hbb⟩; replace hS := hS.below hbb; replace hB9 := hB9.below hbb hB9.lt; replace hB11 := hB11.below hbb hB11.lt) | (go_at_call 17; refine (hvo _ hS).mono ?_; rintro e Wc ⟨rfl, hbc⟩; replace hS := hS.below hbc; replace hB9 := hB9.below hbc hB9.lt; replace hB11 := hB11.below hbc hB11.lt) | (go_at_call 18; refine (hvp _ hS).mono ?_; rintro e Wd ⟨rfl, hbd⟩; replace hS := hS.below hbd; replace hB9 := hB9.below hbd hB9.lt; replace hB11 := hB11.below hbd hB11.lt) | (go_at_call 19; refine (hsgr _).mono ?_; rintro e We ⟨rfl, hbe⟩) | (go_at_call 20; refine (hsn _ _).mono ?_; rintro e w' ⟨rfl, hw⟩; rw [hw]; clear hw w'))
      go_meet
      exact ⟨rfl, hbb.trans ((hbc.trans ((hbd.trans (hbe.mono hbd.size)).mono hbc.size)).mono hbb.size)⟩
  case rest =>
    obtain ⟨rfl, hb12⟩ := hcut
    replace hS := hS.below hb12
    replace hB11 := hB11.below hb12 hB11.lt
    replace hR13 := hR13.below hb12
    clear hb12 hB9 hP7 hak hvo hvp hsm HBK hcs hKK
    obtain ⟨a13, c13, rfl, hc13, hc13m, hf13⟩ := hR13.form
    obtain ⟨au, cu, rfl, hcu, hcum, hwf⟩ := id hS.2.1
    have cU := (hS.1.cell 195).trans (ofc_last _ _)
    unfold maxLen at hcum hc13m
    have HF13 := Lib.hid hf13
    have HWF := Lib.hid hwf
    clear hf13 hwf
    by_cases hC0 : C = 0
    rotate_left
    · have hC2 : C = 4 ∨ C = 7 := by rcases HCODE.out with h | h; exact absurd h hC0; exact h
      rcases hC2 with rfl | rfl
      all_goals (
        go_wp2_with fail
        go_ret
        exact ⟨rfl, hS.2.2.2⟩)
    subst hC0
    obtain rfl := HLVN.out rfl
    replace HLOW := Lib.hid (HLOW.out rfl)
    replace HPOS := Lib.hid (HPOS.out rfl)
    replace HFBC := Lib.hid (HFBC.out rfl)
    clear HLVN HCODE
    have bn : (0 : Int) ≤ N := by omega
    go_upto_region 18 with fail
    clear cU
    go_wp2_with fail
    go_loopw [23] (fun i wr => ∃ k : Nat, k ≤ N ∧ i = .int .i64 k ∧ Below wc.heap.size wc wr) (fun i _ => N - (intOf i).toNat)
    case atStart => exact ⟨0, by omega, rfl, Below.refl _ _⟩
    case round =>
      obtain ⟨k, hk, rfl, hbel⟩ := hrel
      have bk : (0 : Int) ≤ k := by omega
      by_cases hlt : k < N
      · have bl : (k : Int) < N := by omega
        obtain ⟨cc, hcc, hc64⟩ := validO_watch (validO_of HGW.out.valid HN3.out HPW.out) k hlt
        obtain ⟨b, o, rfl, hbl, hcell⟩ := HWF.out.resolve_left (by omega)
        obtain ⟨rfl, h13, hcell13⟩ := HF13.out.resolve_left (by omega)
        have hSr := hS.below hbel
        have cU := (hSr.1.cell 195).trans (ofc_last _ _)
        have e0 : wr.cell? ⟨b, o + k * 2, none⟩ = some (.int .i8 (P k).cel) := (hbel.cell (p := ⟨b, _, none⟩) hbl).trans ((hcell k 0 hlt (by omega)).trans (P k).get0)
        have e1 : wr.cell? ⟨b, o + k * 2 + 1, none⟩ = some (.float .f32 (P k).lim) := (hbel.cell (p := ⟨b, _, none⟩) hbl).trans ((hcell k 1 hlt (by omega)).trans (P k).get1)
        have f1 : wr.cell? ⟨r13, k, none⟩ = some (.float .f32 (R.hea (P k).cel.toNat)) := (hbel.cell (p := ⟨r13, _, none⟩) h13).trans ((hcell13 k hlt).trans (fls_get _ _ k hlt))
        have hl := HLOW.out k hlt
        unfold lowW at hl
        rw [hcc] at e0 f1 hl
        rw [Int.toNat_natCast] at f1 hl
        have g1 : wr.cell? ⟨q11, 130 + cc, none⟩ = some (.float .f32 (R.hea cc)) := (hB11.below hbel hB11.lt).gat.getH cc hc64
        have bcc : (0 : Int) ≤ cc := by omega
        have bcc2 : (cc : Int) < 64 := by omega
        have lq11 := hB11.lt
        have lsz := hbel.size
        go_upto_region 22 with fail
        have hX := Blk.new wr #[.int .i8 cc, .float .f32 (P k).lim] 55
        have hbel2 := hbel.alloc hbel.size (.cells #[.int .i8 cc, .float .f32 (P k).lim] 55)
        have f1' : (wr.alloc (.cells #[.int .i8 cc, .float .f32 (P k).lim] 55)).cell? ⟨r13, k, none⟩ = some (.float .f32 (R.hea cc)) := ((below1 wr _).cell (p := ⟨r13, k, none⟩) (show r13 < wr.heap.size by omega)).trans f1
        have g1' : (wr.alloc (.cells #[.int .i8 cc, .float .f32 (P k).lim] 55)).cell? ⟨q11, 130 + cc, none⟩ = some (.float .f32 (R.hea cc)) := ((below1 wr _).cell (p := ⟨q11, 130 + cc, none⟩) (show q11 < wr.heap.size by omega)).trans g1
        generalize wr.alloc (.cells #[.int .i8 cc, .float .f32 (P k).lim] 55) = Wx at *
        generalize wr.heap.size = qx at *
        have x0 := hX.cell 0
        have x1 := hX.cell 1
        clear f1 g1 e0 e1 hX hcell hcell13 cU hSr
        have hol : (FloatKind.f32.format.order (R.hea cc) (P k).lim == some .lt) = flt (R.hea cc) (P k).lim := flt_eq _ _
        cases hfl : flt (R.hea cc) (P k).lim <;> rw [hfl] at hl hol
        · clear hl hfl
          go_quiet ((go_at_call 20; exact Calls.quiet_of_same (hsn _ _)))
          go_wp2_with fail
          go_roundw
          case rel => exact ⟨k + 1, by omega, by go_num, below_drewN hbel2 _⟩
          case measure => simp [intOf]; omega
        · obtain ⟨h3, h4⟩ := hl rfl
          have h5 : decide ((k : Int) < K) = false := by simp; omega
          have h6 : ¬ (k : Int) < K := by omega
          have hT3 : (T3 != 0) = false := by simp [h3]
          clear hl hfl h3 h4
          go_quiet ((go_at_call 20; exact Calls.quiet_of_same (hsn _ _)))
          go_wp2_with fail
          go_roundw
          case rel => exact ⟨k + 1, by omega, by go_num, below_drewN hbel2 _⟩
          case measure => simp [intOf]; omega
      · obtain rfl : k = N := by omega
        replace hS := hS.below hbel
        replace hB11 := hB11.below hbel hB11.lt
        clear hbel hR13 HF13 HWF HLOW
        go_upto_region 24 with fail
        go_cut [221] from 205 to 221 (fun c wx => c = .bool false ∧ wx = wr)
        case first =>
          rcases HFBC.out with rfl | rfl
          · obtain ⟨p1, p2, p3⟩ := HPOS.out rfl
            have hz : (FloatKind.f32.format.order Z 0 == some .gt) = true := (fgt_eq Z 0).trans p3
            have d1 : decide (K < 0) = false := by simp; omega
            have d2 : decide ((k : Int) ≤ K) = false := by simp; omega
            have d3 : ¬ K < 0 := by omega
            have d4 : ¬ (k : Int) ≤ K := by omega
            clear p3
            go_wp2_with fail
            go_meet
            exact ⟨rfl, rfl⟩
          · go_wp2_with fail
            go_meet
            exact ⟨rfl, rfl⟩
        case rest =>
          obtain ⟨rfl, rfl⟩ := hcut
          clear HFBC HPOS hsn
          have b6 : (m : Int) < 6 := by omega
          go_upto_region 27 with fail
          generalize hWb : wc = Wb at *
          clear hWb
          have hCE := fun w' (hb : Below Wb.heap.size Wb w') => HCE.out G (by have := validG_parts HGW.out.valid; have := HGW.out.small; omega) (by have := validG_parts HGW.out.valid; have := HGW.out.small; omega) w' (hS.2.2.2.trans (hb.mono hS.2.2.2.size))
          have l5 := hS.1.lt
          have lr := hS.2.2.1.lt
          refine wp_splitK 10 (C := fun w' => Below Wb.heap.size Wb w') (R := fun w w' => Below w.heap.size w w') (F := fun ww dd vv => match dd, vv with
            | 225, vv => ∃ q, vv = .slice (some ⟨q, 0, none⟩) 0 0 ∧ Blk ww q #[] 59 ∧ Wb.heap.size ≤ q
            | 226, vv => vv = .slice (some ⟨r, 0, none⟩) m cx
            | 227, vv => ∃ g c, vv = .slice (some ⟨g, 0, none⟩) m c ∧ Own ww g 59 3 (.slice (some ⟨g, 0, none⟩) m c) m (pls m Q) ∧ Wb.heap.size ≤ g
            | 228, vv => vv = .slice a2 n2 c2
            | 229, vv => vv = .pointer (some ⟨p5, 0, none⟩)
            | 230, vv => vv = .agg G.cells
            | 231, vv => ∃ c : Nat, vv = .int .i64 c ∧ c < 64 ∧ isC G c = true
            | 232, vv => ∃ c : Nat, vv = .int .i8 c ∧ c < 64 ∧ isC G c = true
            | 233, vv => ∃ c : Nat, vv = .agg #[.int .i8 0, .int .i8 c, .int .i16 0] ∧ c < 64 ∧ isC G c = true
            | 234, vv => ∃ q c : Nat, vv = .slice (some ⟨q, 0, none⟩) 1 1 ∧ Blk ww q #[.int .i8 0, .int .i8 c, .int .i16 0] 59 ∧ c < 64 ∧ isC G c = true ∧ Wb.heap.size ≤ q
            | _, _ => True) (fun wa wb d v hRR hFF => by
              split at hFF
              · obtain ⟨q, h1, h2, h3⟩ := hFF; exact ⟨q, h1, h2.below hRR h2.lt, h3⟩
              · exact hFF
              · obtain ⟨g, c, h1, h2, h3⟩ := hFF; exact ⟨g, c, h1, h2.below hRR h2.lt, h3⟩
              · exact hFF
              · exact hFF
              · exact hFF
              · exact hFF
              · exact hFF
              · exact hFF
              · obtain ⟨q, c, h1, h2, h3⟩ := hFF; exact ⟨q, c, h1, h2.below hRR h2.lt, h3⟩
              · trivial) (by kernel_rfl) (by kernel_rfl) (by kernel_rfl) (Below.refl _ _).drew ?_ ?_
          · refine ⟨step_go rfl fun ev w1 hC kn => ?_, ?_⟩
            · exact good_of (v := .slice (some ⟨w1.heap.size, 0, none⟩) 0 0) (w' := w1.alloc (.cells #[] 59)) rfl (by simp [execOp, go_sem]) (hC.alloc hC.size _) (below1 _ _) ⟨_, rfl, Blk.new _ _ _, hC.size⟩
            refine ⟨step_go rfl fun ev w1 hC kn => ?_, ?_⟩
            · have e1 : ev (.tmp 6) = .slice (some ⟨r, 0, none⟩) m cx := kn.out 6 rfl rfl rfl
              exact good_of (v := .slice (some ⟨r, 0, none⟩) m cx) rfl (by simp [execOp, e1, go_sem]) hC (Below.refl _ _) rfl
            refine ⟨step_go rfl fun ev w1 hC kn => ?_, ?_⟩
            · have e2 : ev (.tmp 226) = .slice (some ⟨r, 0, none⟩) m cx := kn.inn 226 rfl rfl
              obtain ⟨q, e1, hq, hq2⟩ : ∃ q, ev (.tmp 225) = .slice (some ⟨q, 0, none⟩) 0 0 ∧ Blk w1 q #[] 59 ∧ Wb.heap.size ≤ q := kn.inn 225 rfl rfl
              have hown : Own w1 q 59 3 (.slice (some ⟨q, 0, none⟩) 0 0) 0 [] := own_blk hq rfl (by decide) rfl
              have hsrc := hS.2.2.1.below hC lr
              obtain ⟨g', c', w2, hrun, ho, hgr, hcase⟩ := run_app2 (P := Tryz.prog) (ty := 35) elPm hown (ad := ⟨r, 0, none⟩) (m := m) (c := cx) (news := pls m Q) (pls_length m Q) (fun j v hj => by
                have hjl : j < m * 3 := by
                  rcases Nat.lt_or_ge j (m * 3) with h' | h'
                  · exact h'
                  · rw [List.getElem?_eq_none (by rw [pls_length]; exact h')] at hj; cases hj
                have hadd : (⟨r, 0, none⟩ : Addr).add j = ⟨r, j, none⟩ := by unfold Addr.add; split <;> simp_all
                rw [hadd, hsrc.cell j hjl, hj]) (pls_one m Q) (by unfold maxLen; omega) (by omega)
              have hB : Below w1.heap.size w1 w2 ∧ Wb.heap.size ≤ g' := by
                rcases hcase with ⟨hg, h⟩ | ⟨hg, C, tt, k1, k2, k3⟩
                · exact ⟨h, by have := hC.size; omega⟩
                · have hC0 : C = #[] := by
                    have h1 : w1.heap[q]? = some (.cells #[] 59 (0, 0)) := hq
                    rw [k1] at h1; injection h1 with h1; injection h1
                  subst hC0
                  have hnil : pls m Q = [] := by simpa using k2
                  rw [hnil] at k3
                  have hov : over_ #[] (0 * 3) [] = (#[] : Array Value) := rfl
                  rw [hov] at k3
                  refine ⟨⟨hgr.os, hgr.tape, hgr.output, hgr.size, fun k hk => ?_⟩, by omega⟩
                  by_cases hkq : k = q
                  · subst hkq; rw [k3, k1]
                  · exact hgr.block k hk (fun e => by injection e with e; first | exact hkq e | exact hkq e.symm)
              rw [Nat.zero_add, List.nil_append] at ho
              exact good_of (v := .slice (some ⟨g', 0, none⟩) m c') (w' := w2) rfl (by rw [Nat.zero_add] at hrun; simp only [execOp, resolve, invoke, builtin, Sem.run_bind, Sem.run_pure, Result.andThen_ok, List.map_toArray, List.map_cons, List.map_nil, e1, e2, hrun]) (hC.trans (hB.1.mono hC.size)) hB.1 ⟨g', c', rfl, ho, hB.2⟩
            refine ⟨step_go rfl fun ev w1 hC kn => ?_, ?_⟩
            · have e1 : ev (.tmp 1) = .slice a2 n2 c2 := kn.out 1 rfl rfl rfl
              exact good_of (v := .slice a2 n2 c2) rfl (by simp [execOp, e1, go_sem]) hC (Below.refl _ _) rfl
            refine ⟨step_go rfl fun ev w1 hC kn => ?_, ?_⟩
            · have e1 : ev (.tmp 5) = .pointer (some ⟨p5, 0, none⟩) := kn.out 5 rfl rfl rfl
              exact good_of (v := .pointer (some ⟨p5, 0, none⟩)) rfl (by simp only [execOp, e1]; rfl) hC (Below.refl _ _) rfl
            refine ⟨step_go rfl fun ev w1 hC kn => ?_, ?_⟩
            · have e1 : ev (.tmp 229) = .pointer (some ⟨p5, 0, none⟩) := kn.inn 229 rfl rfl
              exact good_of (v := .agg G.cells) rfl (load_part e1 row66 (hS.1.below hC l5) (show 0 + 195 ≤ _ by rw [ofc_size]; omega) (ofc_ext _ _)) hC (Below.refl _ _) rfl
            refine ⟨step_go rfl fun ev w1 hC kn => ?_, ?_⟩
            · have e1 : ev (.tmp 228) = .slice a2 n2 c2 := kn.inn 228 rfl rfl
              have e2 : ev (.tmp 230) = .agg G.cells := kn.inn 230 rfl rfl
              refine good_call (f := 21) (args := #[.slice a2 n2 c2, .agg G.cells]) rfl (by simp [execOp, e1, e2, kn.fn, kn.con, go_sem]) ((hCE w1 hC).mono fun e w2 ⟨c, h1, h2, he, hb⟩ => ⟨_, he, hC.trans (hb.mono hC.size), hb, c, rfl, h1, h2⟩)
            refine ⟨step_go rfl fun ev w1 hC kn => ?_, ?_⟩
            · obtain ⟨c, e1, h1, h2⟩ : ∃ c : Nat, ev (.tmp 231) = .int .i64 c ∧ c < 64 ∧ isC G c = true := kn.inn 231 rfl rfl
              have hw : IntKind.i8.wrap (c : Int) = c := wrap8 _ (by omega)
              exact good_of (v := .int .i8 c) rfl (by simp [execOp, e1, go_sem, hw]) hC (Below.refl _ _) ⟨c, rfl, h1, h2⟩
            refine ⟨step_go rfl fun ev w1 hC kn => ?_, ?_⟩
            · obtain ⟨c, e1, h1, h2⟩ : ∃ c : Nat, ev (.tmp 232) = .int .i8 c ∧ c < 64 ∧ isC G c = true := kn.inn 232 rfl rfl
              exact good_of (v := .agg #[.int .i8 0, .int .i8 c, .int .i16 0]) rfl (by simp [execOp, e1, go_sem]) hC (Below.refl _ _) ⟨c, rfl, h1, h2⟩
            refine ⟨step_go rfl fun ev w1 hC kn => ?_, ?_⟩
            · obtain ⟨c, e1, h1, h2⟩ : ∃ c : Nat, ev (.tmp 233) = .agg #[.int .i8 0, .int .i8 c, .int .i16 0] ∧ c < 64 ∧ isC G c = true := kn.inn 233 rfl rfl
              exact good_of (v := .slice (some ⟨w1.heap.size, 0, none⟩) 1 1) (w' := w1.alloc (.cells #[.int .i8 0, .int .i8 c, .int .i16 0] 59)) rfl (by simp [execOp, e1, go_sem]) (hC.alloc hC.size _) (below1 _ _) ⟨_, c, rfl, Blk.new _ _ _, h1, h2, hC.size⟩
            exact trivial
          rintro xv w1 hxv hC
          obtain ⟨gx, cg, y227, hOwn, hgx⟩ : ∃ g c, xv 227 = .slice (some ⟨g, 0, none⟩) m c ∧ Own w1 g 59 3 (.slice (some ⟨g, 0, none⟩) m c) m (pls m Q) ∧ Wb.heap.size ≤ g := hxv 227 (by decide)
          obtain ⟨qx, c, y234, hBl, hc64, hcc, hqx⟩ : ∃ q c : Nat, xv 234 = .slice (some ⟨q, 0, none⟩) 1 1 ∧ Blk w1 q #[.int .i8 0, .int .i8 c, .int .i16 0] 59 ∧ c < 64 ∧ isC G c = true ∧ Wb.heap.size ≤ q := hxv 234 (by decide)
          simp only [fill, dstsOf, List.filterMap_cons, List.filterMap_nil, List.foldl_cons, List.foldl_nil, List.set_cons_succ, List.set_cons_zero, List.take_succ_cons, List.take_zero, List.drop_succ_cons, List.drop_zero, y227, y234]
          clear hxv y227 y234 hCE
          go_upto_region 28 with (at_builtin; refine wpList_app elPm rfl rfl rfl rfl (by decide) hOwn hBl rfl ?_ ?_ ?_ ?_; (· intro u hu; simp at hu; rcases hu with rfl | rfl | rfl <;> rfl); (· unfold maxLen; omega); (· omega); intro v25 w2 g25 hOx hgr2 hg25)
          obtain ⟨Q', hQ'⟩ : ∃ Q' : Nat → Pm, Q' = fun i => if i < m then Q i else ⟨0, c, 0⟩ := ⟨_, rfl⟩
          have hq1 : ∀ i, i < m → Q' i = Q i := fun i hi => by rw [hQ']; simp only; rw [if_pos hi]
          have hq2 : Q' m = ⟨0, c, 0⟩ := by rw [hQ']; simp
          have hO2 : Own w2 g25 59 3 v25 (m + 1) (pls (m + 1) Q') := by
            rw [pls_succ, pls_congr (P' := Q) hq1, hq2, Pm.cells_eq]
            exact hOx
          have hb2 : Below Wb.heap.size Wb w2 := hC.grown hgr2 hC.size (fun k e => by injection e; omega)
          have hqo : ∀ i, i < m + 1 → (Q' i).ok := fun i hi => by
            by_cases him : i < m
            · rw [hq1 i him]; exact HQK.out i him
            · obtain rfl : i = m := by omega
              rw [hq2]
              refine ⟨by show (-128 : Int) ≤ 0 ∧ (0 : Int) ≤ 127; omega, by show (-128 : Int) ≤ c ∧ (c : Int) ≤ 127; omega, by show (-32768 : Int) ≤ 0 ∧ (0 : Int) ≤ 32767; omega⟩
          have hid := HIDLE.out c hc64 hcc Q' hq1 hq2
          have hS2 := hS.below hb2
          have hgi := HGI.out Q' v25 hqo w2 hS2 hO2.psl
          rw [hid.1, hid.2] at hgi
          have hB2 := hB11.below hb2 hB11.lt
          clear hS hB11 hgr2 hg25 hC hOwn hBl hgx hqx hOx hqo hid hQ' hq1 hq2 hO2 hb2 lr l5
          go_upto_region 29 with (first | (refine wpList_load_blk rfl rfl rfl row76 hS2.1 (ofc_size _ _) ?_) | (go_at_call 10; refine hgi.mono ?_; rintro e w3 ⟨rfl, hb3⟩; replace hS2 := hS2.below hb3; replace hB2 := hB2.below hb3 hB2.lt) | (refine wpList_alloc_as rfl rfl zero66 ?_) | (refine wpList_store_last (c' := R.cells) rfl rfl rfl rfl rfl (by rw [Gr.size]; kernel_rfl) (by rw [Gr.size, Gr.size]) (List.all_eq_true.2 (Gr.one _)) ?_))
          have hB26 := Blk.new w3 R.cells 30
          replace hS2 := hS2.below (below1 w3 (.cells R.cells 30))
          replace hB2 := hB2.alloc (.cells R.cells 30)
          generalize w3.alloc (.cells R.cells 30) = w4 at *
          generalize w3.heap.size = q26 at *
          clear hgi hb3
          go_upto_region 31 with (first | (refine wpList_load_wantG rfl rfl rfl row66 hB26 (Gr.size _) ?_) | (refine wpList_load_wantG rfl rfl rfl row66 hB2 (Gr.size _) ?_) | (go_at_call 19; refine (hsgr _).mono ?_; rintro e w5 ⟨rfl, hb5⟩))
          replace hS2 := hS2.below hb5
          clear hb5 hB26 hB2 hsgr
          have hsh1 := hsh w5 hS2
          go_upto_region 32 with (first | (go_at_call 22; refine hsh1.mono ?_; rintro e w6 ⟨rfl, hb6⟩; replace hS2 := hS2.below hb6) | (refine wpList_alloc_as rfl rfl zero45 ?_) | (refine wpList_store_last (c' := i64s 8 (shTo Q m)) rfl rfl rfl rfl rfl (by rw [i64s_size]; exact size45) (by rw [i64s_size, i64s_size]) (i64s_all _ _) ?_))
          have hB28 := Blk.new w6 (i64s 8 (shTo Q m)) 60
          replace hS2 := hS2.below (below1 w6 (.cells (i64s 8 (shTo Q m)) 60))
          generalize w6.alloc (.cells (i64s 8 (shTo Q m)) 60) = w7 at *
          generalize w6.heap.size = q28 at *
          clear hsh hsh1 hb6
          have hCel : ∀ j, j < m → w7.cell? ⟨r, j * 3 + 2, none⟩ = some (.int .i16 (Q j).rat) := fun j hj => (hS2.2.2.1.cell _ (by omega)).trans ((pls_get m Q j 2 hj (by omega)).trans (Q j).get2)
          have HCEL := Lib.hid hCel
          clear hCel
          go_wp2_with fail
          go_loopw [30, 32] (fun s i wz => ∃ (j : Nat) (sm : Int), j ≤ m ∧ i = .int .i64 j ∧ s = .int .i64 sm ∧ Hid (sm = sumN (fun i => (Q i).rat) j) ∧ wz = w7) (fun _ i _ => m - (intOf i).toNat)
          case atStart => exact ⟨0, 0, by omega, rfl, rfl, Lib.hid rfl, rfl⟩
          case round =>
            obtain ⟨j, sm, hj, rfl, rfl, hsm, rfl⟩ := hrel
            have bj : (0 : Int) ≤ j := by omega
            by_cases hlt : j < m
            · have bl : (j : Int) < m := by omega
              have e2 := HCEL.out j hlt
              have hr := HRAT.out j hlt
              have hsb := sumN_bd (f := fun i => (Q i).rat) (b := 400) (n := j) (fun i hi => HRAT.out i (by omega))
              rw [← hsm.out] at hsb
              have HNX : Hid (sm + (Q j).rat = sumN (fun i => (Q i).rat) (j + 1)) := Lib.hid (by rw [hsm.out]; rfl)
              have u1 : IntKind.i64.wrap (Q j).rat = (Q j).rat := IntWalk.i64_in _ (by omega)
              have u2 : IntKind.i64.wrap (sm + (Q j).rat) = sm + (Q j).rat := IntWalk.i64_in _ (by omega)
              go_wp2_with fail
              go_roundw
              case rel => exact ⟨j + 1, _, by omega, by go_num, rfl, HNX, by first | rfl | trivial⟩
              case measure => simp [intOf]; omega
            · obtain rfl : j = m := by omega
              go_wp2_with fail
              go_loopw [31, 33] (fun s i wz => ∃ (k : Nat) (sa : Int), k ≤ 8 ∧ i = .int .i64 k ∧ s = .int .i64 sa ∧ Hid (sa = sumN (shTo Q j) k) ∧ wz = wr) (fun _ i _ => 8 - (intOf i).toNat)
              case atStart => exact ⟨0, 0, by omega, rfl, rfl, Lib.hid rfl, rfl⟩
              case round =>
                obtain ⟨k, sa, hk, rfl, rfl, hsa, rfl⟩ := hrel
                have bk : (0 : Int) ≤ k := by omega
                by_cases hlt8 : k < 8
                · have bl8 : (k : Int) < 8 := by omega
                  have e2 := (hB28.cell k).trans (i64s_get 8 (shTo Q j) k hlt8)
                  have hbd := fun i => shTo_bd Q j (fun i hi => HRAT.out i hi) i
                  have hr := hbd k
                  have hsb := sumN_bd (f := shTo Q j) (b := 400 * j) (n := k) (fun i hi => hbd i)
                  rw [← hsa.out] at hsb
                  have HNX : Hid (sa + shTo Q j k = sumN (shTo Q j) (k + 1)) := Lib.hid (by rw [hsa.out]; rfl)
                  have hj3 : (400 * (j : Int)) ≤ 1200 := by omega
                  have hprod : 400 * (j : Int) * k ≤ 1200 * k := Int.mul_le_mul_of_nonneg_right hj3 (by omega)
                  have u2 : IntKind.i64.wrap (sa + shTo Q j k) = sa + shTo Q j k := IntWalk.i64_in _ (by omega)
                  clear hbd hprod
                  generalize shTo Q j k = sh at *
                  go_wp2_with fail
                  go_roundw
                  case rel => exact ⟨k + 1, _, by omega, by go_num, rfl, HNX, by first | rfl | trivial⟩
                  case measure => simp [intOf]; omega
                · obtain rfl : k = 8 := by omega
                  have hEq : sm = sa := by rw [hsm.out, hsa.out, HSUM.out]
                  subst hEq
                  have hss : (sm == sm) = true := by simp
                  go_wp2_with fail
                  go_ret
                  exact ⟨rfl, hS2.2.2.2⟩
end Go.Proofs.YtdnnjahdcabdmaaGreatDoor
