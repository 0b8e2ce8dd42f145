import Derived.Test.YtmmfnklnmdhkiaaGreatMU28
import Derived.Test.YtmmfnklnmdhkiaaGreatMU29
import Derived.Test.YtmmfnklnmdhkiaaGreatMU30
import Derived.Deep.CutRange
/- The law of unsteady heads (FnUnsteady): the walk through the law's own function. -/
namespace Go.Proofs.YtmmfnklnmdhkiaaGreat
open Go.ChangeShapes Go.WideShapes Go.ChangeAt Go.RowKit
set_option linter.unusedVariables false
set_option linter.unusedSimpArgs false
attribute [local irreducible] Calls
/-- A whole row loaded where a guard says so. -/
theorem wpList_load_wantU {P : Program} {ops : Array Oper} {rest : List Oper} {o : Oper} {a : Act} {Q : Exit → Act → World → Prop} {w : World} {ty t : TypeId} {x : Operand} {b n : Nat} {C : Array Value} (hw : Region.wanted o (yielded ops a.tmps) = true) (ho : o.op = .load ty x) (hx : a.eval x = .pointer (some ⟨b, 0, none⟩)) (hr : RowTy P ty n) (hb : Blk w b C t) (hs : C.size = n)
    (h : wpList P ops Q rest (a.put o.dst (.agg C)) w) : wpList P ops Q (o :: rest) a w := by
  obtain ⟨d, hu, hd, hi⟩ := hr
  exact wpList_step fun K hK => by
    simp only [hw, if_true]
    exact wp_load_row ty x ho b hx t C (0, 0) d hb hu (by cases d <;> simp_all) (by rw [hi, hs]) (hK _ _ h)
/-- Grounds in memory. -/
def UnS (w0 : World) (L : List (Nat × Gr)) (w : World) : Prop := (∀ x, x ∈ L → Blk w x.1 x.2.cells 30) ∧ Below w0.heap.size w0 w
section
variable {w0 w w' : World} {p q r : Nat} {G H I : Gr} {L : List (Nat × Gr)} {x y : Nat × Gr}
theorem UnS.below (h : UnS w0 L w) (hb : Below w.heap.size w w') : UnS w0 L w' := ⟨fun x hx => (h.1 x hx).below hb (h.1 x hx).lt, h.2.trans (hb.mono h.2.size)⟩
theorem UnS.new (h : UnS w0 L w) (G : Gr) : UnS w0 ((w.heap.size, G) :: L) (w.alloc (.cells G.cells 30)) :=
  ⟨fun x hx => by
    rcases List.mem_cons.1 hx with rfl | hx
    · exact Blk.new _ _ _
    · exact (h.1 x hx).alloc _, h.2.alloc h.2.size _⟩
theorem UnS.alloc (h : UnS w0 L w) (o : Obj) : UnS w0 L (w.alloc o) := ⟨fun x hx => (h.1 x hx).alloc _, h.2.alloc h.2.size _⟩
theorem UnS.a (h : UnS w0 ((p, G) :: L) w) : Blk w p G.cells 30 := h.1 (p, G) (by simp)
theorem UnS.b (h : UnS w0 (x :: (p, G) :: L) w) : Blk w p G.cells 30 := h.1 (p, G) (by simp)
theorem UnS.c (h : UnS w0 (x :: y :: (p, G) :: L) w) : Blk w p G.cells 30 := h.1 (p, G) (by simp)
theorem UnS.d {z : Nat × Gr} (h : UnS w0 (x :: y :: z :: (p, G) :: L) w) : Blk w p G.cells 30 := h.1 (p, G) (by simp)
theorem UnS.e {z u : Nat × Gr} (h : UnS w0 (x :: y :: z :: u :: (p, G) :: L) w) : Blk w p G.cells 30 := h.1 (p, G) (by simp)
theorem UnS.set (h : UnS w0 ((p, G) :: L) w) (hp : w0.heap.size ≤ p) (hne : ∀ x, x ∈ L → x.1 ≠ p) (H : Gr) : UnS w0 ((p, H) :: L) (w.setRow p H.cells) :=
  ⟨fun x hx => by
    rcases List.mem_cons.1 hx with rfl | hx
    · exact h.a.setRow _
    · exact (h.1 x (List.mem_cons_of_mem _ hx)).rowOther _ (hne x hx), below_setRow h.2 hp _⟩
theorem UnS.drop (h : UnS w0 (x :: L) w) : UnS w0 L w := ⟨fun z hz => h.1 z (List.mem_cons_of_mem _ hz), h.2⟩
theorem UnS.drop1 (h : UnS w0 (x :: y :: L) w) : UnS w0 (x :: L) w := ⟨fun z hz => h.1 z (by rcases List.mem_cons.1 hz with rfl | hz; exact List.mem_cons_self; exact List.mem_cons_of_mem _ (List.mem_cons_of_mem _ hz)), h.2⟩
end
theorem un66 : (Tryz.prog.info? 30).map (·.size) = some 195 := by kernel_rfl
theorem un64 : (Tryz.prog.info? 27).map (·.size) = some 64 := by kernel_rfl
theorem below_dn (w : World) (q : Nat) : Below w.heap.size w (w.drewN q) := below_drewN (Below.refl _ _) q
theorem mask_rng : ∀ (L : List Nat) (x : Int), 0 ≤ x ∧ x < 18446744073709551616 → 0 ≤ L.foldl orB x ∧ L.foldl orB x < 18446744073709551616
  | [], x, h => h
  | k :: L, x, h => by
    rw [List.foldl_cons]
    apply mask_rng L
    rw [orB_bv]
    generalize (bv x ||| bv (IntKind.u64.wrap (2 ^ k))) = B
    have := B.isLt
    omega
/-- The bits of the cells, as they are asked. -/
theorem mask_bit {g : Gr} (hg : g.ok) {k : Nat} (hk : k < 64) : (bits .and .u64 (maskOf (cellsTo g 64) / 2 ^ k) 1 == 1) = isC g k := by
  have hr : ({ g with fix := maskOf (cellsTo g 64) } : Gr).ok := ⟨hg.wide, hg.high, mask_rng (cellsTo g 64) 0 (by decide)⟩
  have e1 := fix_div hr k
  have e2 := fx_lsb hr hk
  have e3 : (bv (maskOf (cellsTo g 64))).getLsbD k = isC g k := by
    unfold maskOf
    rw [mask_lsb _ _ _ (fun j hj => (cellsTo_mem.1 hj).1) hk]
    have h2 : (bv 0).getLsbD k = false := by unfold bv; simp
    rw [h2, Bool.false_or]
    cases hc : isC g k
    · exact decide_eq_false fun h => by rw [(cellsTo_mem.1 h).2] at hc; cases hc
    · exact decide_eq_true (cellsTo_mem.2 ⟨hk, hc⟩)
  change isFx { g with fix := maskOf (cellsTo g 64) } k = (bv (maskOf (cellsTo g 64))).getLsbD k at e2
  rw [e3] at e2
  rw [← e2]
  have e1' : 0 ≤ maskOf (cellsTo g 64) / 2 ^ k ∧ maskOf (cellsTo g 64) / 2 ^ k < 18446744073709551616 := e1
  rw [u64_and1 e1'.1 e1'.2]
  unfold isFx
  rfl
theorem fix_bit {g : Gr} (hg : g.ok) (k : Nat) : (bits .and .u64 (g.fix / 2 ^ k) 1 == 1) = isFx g k := by
  rw [u64_and1 (fix_div hg k).1 (fix_div hg k).2]
  unfold isFx
  rfl
set_option maxRecDepth 100000 in
set_option maxHeartbeats 400000 in
theorem sizeOf_any (b : Nat) (h : isN .f32 b = false) (hs : fle (fab b) 1073741824 = true) (w : World) :
    Calls Tryz.prog 18 #[.float .f32 b] w fun e w' => ∃ r, e = .returned (.float .f32 r) ∧ (FloatKind.f32.format.order r 1073741824 == some .gt) = false ∧ w' = w := by
  have hl := l03Size_any b h hs w
  clear h hs
  go_enter Tryz.func18, Tryz.ntmps18
  go_wp2_with (go_at_call 53; refine hl.mono ?_; rintro e w' ⟨r, rfl, hr, hw⟩; rw [hw]; clear hw w')
  go_ret
  exact ⟨r, rfl, (fgt_eq r _).trans hr, rfl⟩
set_option maxRecDepth 100000 in
set_option maxHeartbeats 40000000 in
theorem lawUnsteady (v1 : Value) (n1 : Nat) (v2 : Value) (n2 : Nat) (w : World) (h1 : BSl w v1 n1) (h2 : BSl w v2 n2) :
    Calls Tryz.prog 3 #[v1, v2] w fun e w' => e = .returned (.bool true) ∧ Below w.heap.size w w' := by
  have h1' := h1
  have h2' := h2
  obtain ⟨a1, c1, rfl, m1, _⟩ := h1'
  obtain ⟨a2, c2, rfl, m2, _⟩ := h2'
  have hbig1 := fun w' => f6big_any a1 n1 c1 m1 w'
  have hbig2 := fun w' => f6big_any a2 n2 c2 m2 w'
  by_cases l1 : 4096 < n1
  · rw [decide_eq_true l1] at hbig1
    clear h1 h2 m1 m2
    go_enter Tryz.func3, Tryz.ntmps3
    go_wp2_with (go_at_call 4; refine (hbig1 _).mono ?_; rintro e w' ⟨rfl, hw⟩; rw [hw]; clear hw w')
    go_ret
    exact ⟨rfl, Below.refl _ _⟩
  rw [decide_eq_false l1] at hbig1
  by_cases l2 : 4096 < n2
  · rw [decide_eq_true l2] at hbig2
    clear h1 h2 m1 m2
    go_enter Tryz.func3, Tryz.ntmps3
    go_wp2_with (go_at_call 4; first | (refine (hbig1 _).mono ?_; rintro e w' ⟨rfl, hw⟩; rw [hw]; clear hw w') | (refine (hbig2 _).mono ?_; rintro e w' ⟨rfl, hw⟩; rw [hw]; clear hw w'))
    go_ret
    exact ⟨rfl, Below.refl _ _⟩
  rw [decide_eq_false l2] at hbig2
  have q1 : n1 ≤ 4096 := by omega
  have q2 : n2 ≤ 4096 := by omega
  have hgr := p6Ground_any _ _ w (h1.bytes q1)
  have hb1 := fun w' (hb : Below w.heap.size w w') => (h1.below hb).bytes q1
  have hb2 := fun w' (hb : Below w.heap.size w w') => (h2.below hb).bytes q2
  clear h1 h2 m1 m2 l1 l2 q1 q2
  go_enter Tryz.func3, Tryz.ntmps3
  go_upto_region 4 with (first | (go_at_call 4; first | (refine (hbig1 _).mono ?_; rintro e w' ⟨rfl, hw⟩; rw [hw]; clear hw w') | (refine (hbig2 _).mono ?_; rintro e w' ⟨rfl, hw⟩; rw [hw]; clear hw w')) | (go_at_call 5; refine hgr.mono ?_; rintro e w1 ⟨G, hG, rfl, hbel⟩) | (refine wpList_alloc_as rfl rfl zero66z ?_) | (refine wpList_store_last rfl rfl rfl rfl rfl (by rw [Gr.size]; exact un66) (by rw [Gr.size, Gr.size]) (List.all_eq_true.2 (Gr.one _)) ?_))
  have hS : UnS w [] w1 := ⟨fun x hx => by simp at hx, hbel⟩
  have hS := hS.new G
  generalize w1.alloc (.cells G.cells 30) = W at *
  generalize w1.heap.size = p5 at *
  have hpt := p6Part_any _ _ W (hb2 W hS.2)
  clear hgr hbel hbig1 hbig2
  go_upto_region 5 with (go_at_call 6; refine hpt.mono ?_; rintro e W1 ⟨x, hx, rfl, hbel⟩)
  have hS := hS.below hbel
  have hok := hG.ok
  have hval := hG.valid
  have hpp := (part_all x hx).2
  have hask : askOk G (partOf x) = true := by unfold askOk; rw [hval, hpp]; rfl
  have e1 : stepGR G (partOf x) = stepR G (partOf x) := by unfold stepGR; rw [hask, if_pos rfl]
  have e2 : stepGC G (partOf x) = stepC G (partOf x) := by unfold stepGC; rw [hask, if_pos rfl]
  have hst := fun w' => stepGround_any G (partOf x) hok w'
  have hss := fun w' => specStepGround_any G (partOf x) hok w'
  have hn1 := fun n w' => stepsOf_any G (partOf x) n hok w'
  have hn2 := fun n w' => specStepsOf_any G (partOf x) n hok w'
  have hu1 := fun w' => stepsUntil_any G (partOf x) 1073741824 30 hok w'
  have hu2 := fun w' => specStepsUntil_any G (partOf x) 1073741824 30 hok w'
  have hUO := untilT_zero (part := partOf x) (small := 1073741824) (n := 30) hok
  have hUS := fun h i => untilT_ok (part := partOf x) (small := 1073741824) (n := 30) hok h (i := i)
  rw [e1, e2] at hst hss
  have HL1 := Lib.hid (fun i hi hc h2 => head_stays hG hx (i := i) hi hc h2)
  have HV := Lib.hid (fun h => stepC_zero (g := G) (part := partOf x) h)
  have hV : stepC G (partOf x) = 0 ∨ stepC G (partOf x) = 4 := by rcases stepC_cases G (partOf x) with h | h; exact .inl h.2.1; exact .inr h.2.1
  have HRT := Lib.hid (fun n k => runTo_step (g := G) (part := partOf x) (n := n) (k := k) hval hpp)
  have HRO := Lib.hid (fun k => runTo_ok (g := G) (part := partOf x) hok k)
  have HSO : Hid (∀ n : Nat, n < 6 → stepsC G (partOf x) n = (runTo G (partOf x) n).2 ∧ ((runTo G (partOf x) n).2 = 0 → stepsR G (partOf x) n = (runTo G (partOf x) n).1)) := Lib.hid fun n hn => by
    have hs : isStp n = true := by unfold isStp; simp; omega
    have e : stepsC G (partOf x) n = (runTo G (partOf x) n).2 := by unfold stepsC; rw [hask, if_pos rfl, hs, if_pos rfl]; simp
    refine ⟨e, fun h => ?_⟩
    unfold stepsR; rw [e, if_pos h]; simp
  have HG := Lib.hid hG
  clear hask e1 e2 hx hpt hbel hG
  generalize partOf x = PT at *
  generalize hRe : stepR G PT = R at *
  generalize stepC G PT = V at *
  have hVV : (V != V) = false := by simp
  have hsg := fun g w' => sameGround_self g w'
  go_upto_region 6 with (first | (refine wpList_load_blk rfl rfl rfl row66 hS.a (Gr.size _) ?_) | (go_at_call 7; refine (hst _).mono ?_; rintro e W2 ⟨rfl, hbel⟩) | (refine wpList_alloc_as rfl rfl zero66z ?_) | (refine wpList_store_last rfl rfl rfl rfl rfl (by rw [Gr.size]; exact un66) (by rw [Gr.size, Gr.size]) (List.all_eq_true.2 (Gr.one _)) ?_))
  have hS := (hS.below hbel).new R
  generalize W2.alloc (.cells R.cells 30) = W3 at *
  generalize W2.heap.size = p7 at *
  clear hbel
  go_upto_region 7 with (first | (refine wpList_load_blk rfl rfl rfl row66 hS.b (Gr.size _) ?_) | (go_at_call 8; refine (hss _).mono ?_; rintro e W4 ⟨rfl, hbel⟩) | (refine wpList_alloc_as rfl rfl zero66z ?_) | (refine wpList_store_last rfl rfl rfl rfl rfl (by rw [Gr.size]; exact un66) (by rw [Gr.size, Gr.size]) (List.all_eq_true.2 (Gr.one _)) ?_))
  have hS := (hS.below hbel).new R
  generalize W4.alloc (.cells R.cells 30) = W5 at *
  generalize W4.heap.size = p9 at *
  clear hbel
  go_upto_region 9 with (first | (refine wpList_load_wantU rfl rfl rfl row66 hS.a (Gr.size _) ?_) | (refine wpList_load_wantU rfl rfl rfl row66 hS.b (Gr.size _) ?_) | (go_at_call 9; refine (hsg _ _).mono ?_; rintro e W6 ⟨rfl, hbel⟩))
  have hS := (hS.below hbel).drop1
  clear hbel hst hss
  rcases hV with rfl | rfl
  case inr =>
    go_wp2_with fail
    go_ret
    exact ⟨rfl, hS.2⟩
  obtain ⟨_, hbo, hRs⟩ := HV.out rfl
  have HR0 := Lib.hid hRs
  clear HV hRs hRe
  have hco := fun w' => cellsOf_any G hok hval w'
  have hba := fun w' => balancesOf_any G hok hval hbo w'
  go_upto_region 12 with (first | (refine wpList_load_blk rfl rfl rfl row66 hS.b (Gr.size _) ?_) | (go_at_call 10; refine (hco _).mono ?_; rintro e W7 ⟨rfl, hbel⟩))
  have hS := hS.below hbel
  clear hbel hco
  go_upto_region 13 with (first | (refine wpList_load_blk rfl rfl rfl row66 hS.b (Gr.size _) ?_) | (go_at_call 11; refine (hba _).mono ?_; rintro e W8 ⟨ff, rfl, hff, hbel⟩) | (refine wpList_alloc_as rfl rfl zero64 ?_) | (refine wpList_store_last rfl rfl rfl rfl rfl (by rw [fls_size]; exact un64) (by rw [fls_size, fls_size]) (List.all_eq_true.2 (fls_one _ _)) ?_))
  have hS := (hS.below hbel).alloc (.cells (fls 64 ff).toArray 27)
  have hB := Blk.new W8 (fls 64 ff).toArray 27
  generalize W8.alloc (.cells (fls 64 ff).toArray 27) = W9 at *
  generalize W8.heap.size = p13 at *
  clear hbel hba hbo
  have HFF := Lib.hid hff
  clear hff
  go_upto_region 16 with fail
  go_loopw [15] (fun i wr => ∃ j : Nat, j ≤ 64 ∧ i = .int .i64 j ∧ Below W9.heap.size W9 wr) (fun i _ => 64 - (intOf i).toNat)
  case atStart => exact ⟨0, by omega, rfl, Below.refl _ _⟩
  case round =>
    obtain ⟨j, hj, rfl, hbr⟩ := hrel
    have bj : (0 : Int) ≤ j := by omega
    by_cases hlt : j < 64
    · have bl : (j : Int) < 64 := by omega
      have hSr := hS.below hbr
      have c5 : wr.cell? ⟨p5, 194, none⟩ = some (.int .u64 G.fix) := hSr.b.gat.getF
      have ch : wr.cell? ⟨p5, 130 + j, none⟩ = some (.float .f32 (G.hea j)) := hSr.b.gat.getH j hlt
      have cr : wr.cell? ⟨p9, 130 + j, none⟩ = some (.float .f32 (R.hea j)) := hSr.a.gat.getH j hlt
      have cb : wr.cell? ⟨p13, j, none⟩ = some (.float .f32 (ff j)) := ((hB.below hbr hB.lt).cell j).trans (by simp [fls_get 64 ff j hlt])
      have mb := mask_bit hok hlt
      have fb := fix_bit hok j
      have hqb := feq_eq (ff j) 0
      have hqb2 : isC G j = true → feq (ff j) 0 = feq (bal G j) 0 := fun hc => feq_al ((HFF.out j hlt).trans (by unfold balF; rw [hc, if_pos rfl])) 0
      have HQ := Lib.hid hqb2
      clear hSr hB hS hqb2
      go_upto_region 19 with fail
      cases hc : isC G j
      · rw [hc] at mb
        go_quiet (fail)
        go_wp2_with fail
        go_roundw
        case rel => exact ⟨j + 1, by omega, by go_num, below_drewN hbr _⟩
        case measure => simp [intOf]; omega
      · rw [hc] at mb
        cases hf : isFx G j
        · cases hz : feq (ff j) 0
          · rw [hz] at hqb
            go_quiet (fail)
            go_wp2_with fail
            go_roundw
            case rel => exact ⟨j + 1, by omega, by go_num, below_drewN hbr _⟩
            case measure => simp [intOf]; omega
          · clear hqb
            have he : feq (R.hea j) (G.hea j) = true := by rw [HR0.out]; exact HL1.out j hlt hc (.inr ((HQ.out hc).symm.trans hz))
            have hq : FloatKind.f32.format.order (R.hea j) (G.hea j) = some .eq := by unfold feq at he; simpa using he
            have hqb : FloatKind.f32.format.order (ff j) 0 = some .eq := by unfold feq at hz; simpa using hz
            go_quiet (fail)
            go_wp2_with fail
            go_roundw
            case rel => exact ⟨j + 1, by omega, by go_num, below_drewN hbr _⟩
            case measure => simp [intOf]; omega
        · have he : feq (R.hea j) (G.hea j) = true := by rw [HR0.out]; exact HL1.out j hlt hc (.inl hf)
          have hq : FloatKind.f32.format.order (R.hea j) (G.hea j) = some .eq := by unfold feq at he; simpa using he
          go_quiet (fail)
          go_wp2_with fail
          go_roundw
          case rel => exact ⟨j + 1, by omega, by go_num, below_drewN hbr _⟩
          case measure => simp [intOf]; omega
    · obtain rfl : j = 64 := by omega
      go_upto_region 21 with fail
      have hS := (hS.below hbr).drop
      clear hbr hB HR0 HFF HL1 hj hlt bj
      have hpk := p6Pick_any _ _ 6 (by omega) (by omega) wr (hb2 wr hS.2)
      go_upto_region 22 with (go_at_call 12; refine hpk.mono ?_; rintro e W10 ⟨y, y0, y1, rfl, hbel⟩)
      obtain ⟨n, rfl⟩ : ∃ n : Nat, y = n := ⟨y.toNat, by omega⟩
      have hS := hS.below hbel
      clear hbel hpk
      obtain ⟨hs1, hs2⟩ := HSO.out n (by omega)
      have hn1 := fun w' => hn1 n w'
      have hn2 := fun w' => hn2 n w'
      have HY := Lib.hid (fun h k hk => HRT.out n k h hk)
      have HX := Lib.hid hs2
      rw [hs1] at hn1 hn2
      clear hs1 hs2 HSO HRT
      generalize stepsR G PT n = MD at *
      generalize (runTo G PT n).2 = C4 at *
      have hC4 : (C4 != C4) = false := by simp
      go_upto_region 23 with (first | (refine wpList_load_blk rfl rfl rfl row66 hS.a (Gr.size _) ?_) | (go_at_call 13; refine (hn1 _).mono ?_; rintro e W11 ⟨rfl, hbel⟩) | (refine wpList_alloc_as rfl rfl zero66z ?_) | (refine wpList_store_last rfl rfl rfl rfl rfl (by rw [Gr.size]; exact un66) (by rw [Gr.size, Gr.size]) (List.all_eq_true.2 (Gr.one _)) ?_))
      have hS := (hS.below hbel).new MD
      generalize W11.alloc (.cells MD.cells 30) = W12 at *
      generalize W11.heap.size = p18 at *
      clear hbel
      go_upto_region 24 with (first | (refine wpList_load_blk rfl rfl rfl row66 hS.b (Gr.size _) ?_) | (go_at_call 14; refine (hn2 _).mono ?_; rintro e W13 ⟨rfl, hbel⟩) | (refine wpList_alloc_as rfl rfl zero66z ?_) | (refine wpList_store_last rfl rfl rfl rfl rfl (by rw [Gr.size]; exact un66) (by rw [Gr.size, Gr.size]) (List.all_eq_true.2 (Gr.one _)) ?_))
      have hS := (hS.below hbel).new MD
      generalize W13.alloc (.cells MD.cells 30) = W14 at *
      generalize W13.heap.size = p20 at *
      clear hbel hn1 hn2
      go_upto_region 26 with (first | (refine wpList_load_wantU rfl rfl rfl row66 hS.a (Gr.size _) ?_) | (refine wpList_load_wantU rfl rfl rfl row66 hS.b (Gr.size _) ?_) | (go_at_call 9; refine (hsg _ _).mono ?_; rintro e W15 ⟨rfl, hbel⟩))
      have hS := (hS.below hbel).drop1
      clear hbel
      go_upto_region 27 with (first | (refine wpList_load_blk rfl rfl rfl row66 hS.b (Gr.size _) ?_) | (refine wpList_alloc_as rfl rfl zero66z ?_) | (refine wpList_store_last rfl rfl rfl rfl rfl (by rw [Gr.size]; exact un66) (by rw [Gr.size, Gr.size]) (List.all_eq_true.2 (Gr.one _)) ?_))
      have n1 : p20 ≠ W15.heap.size := Nat.ne_of_lt hS.a.lt
      have n2 : p5 ≠ W15.heap.size := Nat.ne_of_lt hS.b.lt
      have n3 : w.heap.size ≤ W15.heap.size := hS.2.size
      have hS := hS.new G
      generalize W15.alloc (.cells G.cells 30) = W16 at *
      generalize W15.heap.size = p22 at *
      have hNE : ∀ z : Nat × Gr, z ∈ [(p20, MD), (p5, G)] → z.1 ≠ p22 := fun z hz => by
        simp at hz
        rcases hz with rfl | rfl
        · exact n1
        · exact n2
      have HNE := Lib.hid hNE
      clear hNE n1 n2
      go_upto_region 28 with fail
      go_loopw [23] (fun i wr => ∃ k : Nat, k ≤ n ∧ i = .int .i64 k ∧ UnS w [(p22, (runTo G PT k).1), (p20, MD), (p5, G)] wr) (fun i _ => n - (intOf i).toNat)
      case atStart => exact ⟨0, by omega, rfl, hS⟩
      case round =>
        obtain ⟨k, hk, rfl, hSl⟩ := hrel
        clear hS
        have bk : (0 : Int) ≤ k := by omega
        have bk2 : (k : Int) < 100 := by omega
        by_cases hlt : k < n ∧ C4 = 0
        · obtain ⟨hlt, rfl⟩ := hlt
          have bl : (k : Int) < n := by omega
          obtain ⟨g1, g2⟩ := HY.out rfl k hlt
          have hstk := fun w' => stepGround_any (runTo G PT k).1 PT (HRO.out k) w'
          rw [g1, g2] at hstk
          clear g1 g2
          generalize (runTo G PT k).1 = CU at *
          generalize hNX : (runTo G PT (k + 1)).1 = NX at *
          go_upto_region 31 with (first | (refine wpList_load_blk rfl rfl rfl row66 hSl.a (Gr.size _) ?_) | (go_at_call 7; refine (hstk _).mono ?_; rintro e W17 ⟨rfl, hbel⟩) | (refine wpList_alloc_as rfl rfl zero66z ?_) | (refine wpList_store_last rfl rfl rfl rfl rfl (by rw [Gr.size]; exact un66) (by rw [Gr.size, Gr.size]) (List.all_eq_true.2 (Gr.one _)) ?_))
          have hSl := (hSl.below hbel).new NX
          generalize W17.alloc (.cells NX.cells 30) = W18 at *
          generalize W17.heap.size = p24 at *
          clear hbel hstk
          go_wp2_with (first | (refine wpList_load_blk rfl rfl rfl row66 hSl.a (Gr.size _) ?_) | (refine wpList_store_blk rfl rfl rfl rfl row66 hSl.b (Gr.size _) (Gr.size _) (Gr.one _) ?_))
          go_roundw
          case rel => exact ⟨k + 1, by omega, by go_num, by rw [hNX]; exact hSl.drop.set n3 HNE.out NX⟩
          case measure => simp [intOf]; omega
        · have hfin : C4 = 0 → k = n := fun h => by omega
          go_upto_region 28 with fail
          go_cut [173] from 167 to 173 (fun c wx => c = .bool false ∧ wx = wr)
          case first =>
            by_cases hlt2 : k < n
            · have bl : (k : Int) < n := by omega
              have hc0 : (C4 == 0) = false := by simp; exact fun h => hlt ⟨hlt2, h⟩
              go_wp2_with fail
              go_meet
              exact ⟨rfl, rfl⟩
            · have bl : ¬ (k : Int) < n := by omega
              go_wp2_with fail
              go_meet
              exact ⟨rfl, rfl⟩
          case rest =>
            obtain ⟨rfl, hwc⟩ := hcut
            rw [hwc]
            clear hwc wc
            go_upto_region 34 with fail
            go_cut [192] from 185 to 192 (fun c wx => c = .bool false ∧ Below wr.heap.size wr wx)
            case first =>
              by_cases h0 : C4 = 0
              · have hMD : (runTo G PT k).1 = MD := by rw [hfin h0]; exact (HX.out h0).symm
                have hc1 : (C4 == 0) = true := by rw [h0]; rfl
                rw [hMD] at hSl
                clear h0
                have hS := hSl
                go_wp2_with (first | (refine wpList_load_wantU rfl rfl rfl row66 hS.a (Gr.size _) ?_) | (refine wpList_load_wantU rfl rfl rfl row66 hS.b (Gr.size _) ?_) | (go_at_call 9; refine (hsg _ _).mono ?_; rintro e W19 ⟨rfl, hbel⟩))
                go_meet
                exact ⟨rfl, hbel⟩
              · have hc1 : (C4 == 0) = false := by simp; exact h0
                clear h0
                go_wp2_with fail
                go_meet
                exact ⟨rfl, Below.refl _ _⟩
            case rest =>
              obtain ⟨rfl, hbw⟩ := hcut
              have hS := (hSl.below hbw).drop.drop
              clear hbw hSl hfin hlt HX HY HNE n3 HRO bk bk2 hk
              generalize hUG : (untilT G PT 1073741824 30).1 = UG at *
              generalize hUN : (untilT G PT 1073741824 30).2.1 = UN at *
              generalize hUC : (untilT G PT 1073741824 30).2.2 = UC at *
              clear hUG hUN hUC
              have hUC : (UC != UC) = false := by simp
              have hUN : (UN != UN) = false := by simp
              have HUO := Lib.hid hUO
              have HUS := Lib.hid hUS
              clear hUO hUS
              go_upto_region 36 with fail
              go_upto_region 37 with (first | (refine wpList_load_blk rfl rfl rfl row66 hS.a (Gr.size _) ?_) | (go_at_call 15; refine (hu1 _).mono ?_; rintro e W20 ⟨rfl, hbel⟩) | (refine wpList_alloc_as rfl rfl zero66z ?_) | (refine wpList_store_last rfl rfl rfl rfl rfl (by rw [Gr.size]; exact un66) (by rw [Gr.size, Gr.size]) (List.all_eq_true.2 (Gr.one _)) ?_))
              have hS := (hS.below hbel).new UG
              generalize W20.alloc (.cells UG.cells 30) = W21 at *
              generalize W20.heap.size = p26 at *
              clear hbel hu1
              go_upto_region 38 with (first | (refine wpList_load_blk rfl rfl rfl row66 hS.b (Gr.size _) ?_) | (go_at_call 16; refine (hu2 _).mono ?_; rintro e W22 ⟨rfl, hbel⟩) | (refine wpList_alloc_as rfl rfl zero66z ?_) | (refine wpList_store_last rfl rfl rfl rfl rfl (by rw [Gr.size]; exact un66) (by rw [Gr.size, Gr.size]) (List.all_eq_true.2 (Gr.one _)) ?_))
              have hS := (hS.below hbel).new UG
              generalize W22.alloc (.cells UG.cells 30) = W23 at *
              generalize W22.heap.size = p29 at *
              clear hbel hu2
              go_upto_region 40 with (first | (refine wpList_load_wantU rfl rfl rfl row66 hS.a (Gr.size _) ?_) | (refine wpList_load_wantU rfl rfl rfl row66 hS.b (Gr.size _) ?_) | (go_at_call 9; refine (hsg _ _).mono ?_; rintro e W24 ⟨rfl, hbel⟩))
              have hS := (hS.below hbel).drop1
              clear hbel hUC hUN
              go_upto_if 222 with fail
              go_cut [32, 33, 34] from 222 to 239 (fun c d f wx => Below W24.heap.size W24 wx)
              case first =>
                by_cases h0 : UC = 0
                · have hc2 : (UC == 0) = true := by rw [h0]; rfl
                  obtain ⟨u1, u2, u3, _⟩ := HUO.out h0
                  have HUS' := Lib.hid (HUS.out h0)
                  clear h0 HUS HUO
                  have hwb := fun w' => worstBalance_any UG u1 u2 u3 w'
                  clear u1 u2 u3
                  go_upto_region 42 with (first | (refine wpList_load_blk rfl rfl rfl row66 hS.a (Gr.size _) ?_) | (go_at_call 17; refine (hwb _).mono ?_; rintro e W25 ⟨kw, xw, cw, rfl, hcc, hbel⟩))
                  rcases hcc with rfl | ⟨rfl, i, hi, hci, hfi, rfl⟩
                  · go_wp2_with fail
                    go_meet
                    exact hbel
                  · obtain ⟨z1, z2⟩ := HUS'.out i hi hci hfi
                    have hsz := fun w' => sizeOf_any _ z1 z2 w'
                    clear z1 z2 hi hci hfi hwb
                    go_wp2_with (go_at_call 18; refine (hsz _).mono ?_; rintro e w' ⟨rz, rfl, hrz, hw⟩; rw [hw]; clear hw w')
                    go_meet
                    exact hbel
                · have hc2 : (UC == 0) = false := by simp; exact h0
                  clear h0
                  go_wp2_with fail
                  go_meet
                  exact Below.refl _ _
              case rest =>
                have hS := (hS.below hcut).drop
                clear hcut HUO HUS
                have hnu := p6Number_any _ _ wc (hb1 wc hS.2)
                go_upto_region 44 with fail
                go_upto_region 45 with (go_at_call 19; refine hnu.mono ?_; rintro e W26 ⟨zm, hzm, rfl, hbel⟩)
                have hf := mean_is hzm
                rw [fcnt_some hf]
                rw [fres_some hf]
                change Code.wp _ _ _ _ W26
                have hpm := (num_all zm hzm).2.2
                have hS := hS.below hbel
                clear hbel hnu hf hzm
                generalize meanOf zm = M at *
                have hfa := p6Factor_any _ _ W26 (hb2 W26 hS.2)
                go_upto_region 46 with (go_at_call 20; refine hfa.mono ?_; rintro e W27 ⟨xa, xb, hxa, hxb, rfl, hbel⟩)
                have hpa := (fac_all xa hxa).2
                have hpb := (fac_all xb hxb).2
                have hS := hS.below hbel
                clear hbel hfa hxa hxb
                generalize facOf xa = A at *
                generalize facOf xb = B at *
                have hho := p6Pick_any _ _ 12 (by omega) (by omega) W27 (hb2 W27 hS.2)
                go_upto_region 47 with (go_at_call 12; refine hho.mono ?_; rintro e W28 ⟨hr, k0, k1, rfl, hbel⟩)
                have hS := hS.below hbel
                clear hbel hho hb1 hb2
                have ho : TOk G M A B PT := ⟨hok, hval, hpm, hpa, hpb, hpp⟩
                have hn4 : n ≤ 400 := by omega
                have ht1 := fun w' => tideStep_any G M A B PT hr ho k0 (by omega) w'
                have ht2 := fun w' => specTideStep_any G M A B PT hr ho k0 (by omega) w'
                have hr1 := fun w' => tideRun_any G M A B PT n hn4 ho w'
                have hr2 := fun w' => specTideRun_any G M A B PT n hn4 ho w'
                have hh1 := fun w' => headsOverTime_any G M A B PT n hn4 ho w'
                have hh2 := fun w' => specHeadsOverTime_any G M A B PT n hn4 ho w'
                have hhd := fun w' => headAtHour_any M A B hr hpm hpa hpb k0 (by omega) w'
                have HT1 := Lib.hid (fun h i hi hf => tid_fixed (H := headT M A B hr) (part := PT) hok hval h (i := i) hi hf)
                have HT2 := Lib.hid (fun h r hr' => tid_plain (g := G) (H := headT M A B hr) (part := PT) (r := r) h hr' (cn_headT _ _ _ _))
                have HR1 := Lib.hid (fun h => runC_n (g := G) (m := M) (a := A) (b := B) (part := PT) (n := n) h)
                have HR2 := Lib.hid (fun h hn => runC_last (g := G) (m := M) (a := A) (b := B) (part := PT) (n := n) h hn)
                have hRN := runN_le G M A B PT n
                clear ho hpm hpa hpb hpp
                generalize tidR G (headT M A B hr) PT = TR at *
                generalize tidC G (headT M A B hr) PT = TC at *
                generalize headT M A B hr = HD at *
                generalize runG G M A B PT n = RG at *
                generalize runC G M A B PT n = RC at *
                generalize runN G M A B PT n = RN at *
                generalize heaT G M A B PT = HT at *
                have e3 : (TC != TC) = false := by simp
                have e4 : (RC != RC) = false := by simp
                go_upto_region 48 with (first | (refine wpList_load_blk rfl rfl rfl row66 hS.a (Gr.size _) ?_) | (go_at_call 21; refine (ht1 _).mono ?_; rintro e W29 ⟨rfl, hbel⟩) | (refine wpList_alloc_as rfl rfl zero66z ?_) | (refine wpList_store_last rfl rfl rfl rfl rfl (by rw [Gr.size]; exact un66) (by rw [Gr.size, Gr.size]) (List.all_eq_true.2 (Gr.one _)) ?_))
                have hS := (hS.below hbel).new TR
                generalize W29.alloc (.cells TR.cells 30) = W30 at *
                generalize W29.heap.size = p38 at *
                clear hbel ht1
                go_upto_region 49 with (first | (refine wpList_load_blk rfl rfl rfl row66 hS.b (Gr.size _) ?_) | (go_at_call 22; refine (ht2 _).mono ?_; rintro e W31 ⟨rfl, hbel⟩) | (refine wpList_alloc_as rfl rfl zero66z ?_) | (refine wpList_store_last rfl rfl rfl rfl rfl (by rw [Gr.size]; exact un66) (by rw [Gr.size, Gr.size]) (List.all_eq_true.2 (Gr.one _)) ?_))
                have hS := (hS.below hbel).new TR
                generalize W31.alloc (.cells TR.cells 30) = W32 at *
                generalize W31.heap.size = p40 at *
                clear hbel ht2
                go_upto_region 50 with (first | (refine wpList_load_blk rfl rfl rfl row66 hS.c (Gr.size _) ?_) | (go_at_call 23; refine (hr1 _).mono ?_; rintro e W33 ⟨rfl, hbel⟩) | (refine wpList_alloc_as rfl rfl zero66z ?_) | (refine wpList_store_last rfl rfl rfl rfl rfl (by rw [Gr.size]; exact un66) (by rw [Gr.size, Gr.size]) (List.all_eq_true.2 (Gr.one _)) ?_))
                have hS := (hS.below hbel).new RG
                generalize W33.alloc (.cells RG.cells 30) = W34 at *
                generalize W33.heap.size = p42 at *
                clear hbel hr1
                go_upto_region 51 with (first | (refine wpList_load_blk rfl rfl rfl row66 hS.d (Gr.size _) ?_) | (go_at_call 24; refine (hr2 _).mono ?_; rintro e W35 ⟨rfl, hbel⟩) | (refine wpList_alloc_as rfl rfl zero66z ?_) | (refine wpList_store_last rfl rfl rfl rfl rfl (by rw [Gr.size]; exact un66) (by rw [Gr.size, Gr.size]) (List.all_eq_true.2 (Gr.one _)) ?_))
                have hS := (hS.below hbel).new RG
                generalize W35.alloc (.cells RG.cells 30) = W36 at *
                generalize W35.heap.size = p44 at *
                clear hbel hr2
                go_upto_region 52 with (first | (refine wpList_load_blk rfl rfl rfl row66 hS.e (Gr.size _) ?_) | (go_at_call 25; refine (hh1 _).mono ?_; rintro e W37 ⟨va, ra, rfl, hra, hRa, hbel⟩))
                have hS := hS.below hbel
                clear hbel hh1 hra
                go_upto_region 53 with (first | (refine wpList_load_blk rfl rfl rfl row66 hS.e (Gr.size _) ?_) | (go_at_call 26; refine (hh2 _).mono ?_; rintro e W38 ⟨vb, rb, rfl, hrb, hRb, hbel⟩))
                have hS := hS.below hbel
                have hRa := hRa.below hbel
                clear hbel hh2 hrb
                have hsn := fun w' a b => sameNumbers_self va vb ra rb RN HT w' (by omega) a b
                have hb0 := Below.refl W38.heap.size W38
                go_upto_region 55 with (first | (refine wpList_load_wantU rfl rfl rfl row66 hS.a (Gr.size _) ?_) | (refine wpList_load_wantU rfl rfl rfl row66 hS.b (Gr.size _) ?_) | (refine wpList_load_wantU rfl rfl rfl row66 hS.c (Gr.size _) ?_) | (refine wpList_load_wantU rfl rfl rfl row66 hS.d (Gr.size _) ?_) | (go_at_call 9; refine (hsg _ _).mono ?_; rintro e wq ⟨rfl, hbq⟩; have hS := hS.below hbq; have hRa := hRa.below hbq; have hRb := hRb.below hbq; clear hbq) | (go_at_call 27; refine (hsn _ hRa hRb).mono ?_; rintro e wq ⟨rfl, kq, rfl⟩; have hS := hS.below (below_dn _ kq); have hRb := hRb.below (below_dn _ kq)))
                clear hb0 hRa hsn hsg e3 e4
                generalize wq.drewN kq = WW at *
                go_upto_if 338 with fail
                go_cut [50, 51, 52] from 338 to 367 (fun c d f wx => Below WW.heap.size WW wx)
                case first =>
                  by_cases h0 : TC = 0
                  · have hc3 : (TC == 0) = true := by rw [h0]; rfl
                    have HA := Lib.hid (HT1.out h0)
                    have HB := HT2.out h0
                    clear h0 HT1 HT2 HR1 HR2 hRb
                    go_upto_region 57 with (go_at_call 28; refine (hhd _).mono ?_; rintro e W40 ⟨rr, rfl, hrr, hbel⟩)
                    obtain rfl := HB rr hrr
                    clear HB hhd hrr
                    have hS := hS.below hbel
                    go_upto_region 58 with fail
                    go_loopw [52] (fun i wr => ∃ j : Nat, j ≤ 64 ∧ i = .int .i64 j ∧ Below W40.heap.size W40 wr) (fun i _ => 64 - (intOf i).toNat)
                    case atStart => exact ⟨0, by omega, rfl, Below.refl _ _⟩
                    case round =>
                      obtain ⟨j, hj, rfl, hbr⟩ := hrel
                      have bj : (0 : Int) ≤ j := by omega
                      by_cases hlt : j < 64
                      · have bl : (j : Int) < 64 := by omega
                        have hSr := hS.below hbr
                        have c5 : wr.cell? ⟨p5, 194, none⟩ = some (.int .u64 G.fix) := hSr.e.gat.getF
                        have fb := fix_bit hok j
                        cases hf : isFx G j
                        · rw [hf] at fb
                          clear hSr hS
                          go_wp2_with fail
                          go_roundw
                          case rel => exact ⟨j + 1, by omega, by go_num, hbr⟩
                          case measure => simp [intOf]; omega
                        · rw [hf] at fb
                          have hTj := HA.out j hlt hf
                          have ch : wr.cell? ⟨p40, 130 + j, none⟩ = some (.float .f32 rr) := (hSr.c.gat.getH j hlt).trans (by rw [hTj])
                          have hs := fun w' => sameNumber_self rr w'
                          clear hSr hS hTj
                          go_wp2_with (go_at_call 29; refine (hs _).mono ?_; rintro e w' ⟨rfl, hw⟩; rw [hw]; clear hw w')
                          go_roundw
                          case rel => exact ⟨j + 1, by omega, by go_num, hbr⟩
                          case measure => simp [intOf]; omega
                      · obtain rfl : j = 64 := by omega
                        go_wp2_with fail
                        go_meet
                        exact hbel.trans (hbr.mono hbel.size)
                  · have hc3 : (TC == 0) = false := by simp; exact h0
                    clear h0
                    go_wp2_with fail
                    go_meet
                    exact Below.refl _ _
                case rest =>
                  have hS := hS.below hcut
                  have hRb := hRb.below hcut
                  clear hcut HT1 HT2 hhd
                  go_upto_region 64 with fail
                  obtain ⟨ab, cb, rfl, hcb, _, hfb⟩ := hRb.form
                  have bel := hS.2
                  by_cases h0 : RC = 0
                  · obtain rfl := HR1.out h0
                    have HL := Lib.hid (HR2.out h0)
                    have hc4 : (RC != 0) = false := by rw [h0]; rfl
                    clear h0 HR1 HR2 hRb hn4 hRN
                    cases RN with
                    | zero =>
                      clear hS hfb
                      go_quiet (fail)
                      go_wp2_with fail
                      go_ret
                      exact ⟨rfl, below_drewN bel _⟩
                    | succ m =>
                      obtain ⟨rfl, _, hfb⟩ := hfb.resolve_left (by omega)
                      have eh : HT m = RG.hea 0 := HL.out (by omega)
                      have e1 : wc.cell? ⟨rb, m, none⟩ = some (.float .f32 (HT m)) := (hfb m (by omega)).trans (fls_get _ HT m (by omega))
                      have e2 : wc.cell? ⟨p44, 130, none⟩ = some (.float .f32 (RG.hea 0)) := hS.a.gat.getH 0 (by omega)
                      rw [← eh] at e2
                      have hs := fun w' => sameNumber_self (HT m) w'
                      have b0 : (0 : Int) ≤ m := by omega
                      have b2 : (m : Int) < 6 := by omega
                      have b1 : (m : Int) < (m : Int) + 1 := by omega
                      have b3 : m < m + 1 := by omega
                      have i1 : ((m + 1 : Nat) : Int) - 1 = m := by omega
                      have i3 : (m : Int) + 1 - 1 = m := by omega
                      have i4 : IntKind.i64.wrap (m : Int) = m := by rw [IntKind.wrap_i64]; omega
                      have i5 : IntKind.i64.wrap ((m : Int) + 1 - 1) = m := by rw [i3, i4]
                      have i6 : IntKind.i64.wrap (((m + 1 : Nat) : Int) - 1) = m := by rw [i1, i4]
                      clear hS hfb eh HL
                      go_quiet ((go_at_call 29; exact Calls.quiet_of_same (hs _)))
                      go_wp2_with fail
                      go_ret
                      exact ⟨rfl, below_drewN bel _⟩
                  · have hc4 : (RC != 0) = true := by simp; exact h0
                    clear h0 hS hfb hRb HR1 HR2
                    go_quiet (fail)
                    go_wp2_with fail
                    go_ret
                    exact ⟨rfl, below_drewN bel _⟩
end Go.Proofs.YtmmfnklnmdhkiaaGreat
