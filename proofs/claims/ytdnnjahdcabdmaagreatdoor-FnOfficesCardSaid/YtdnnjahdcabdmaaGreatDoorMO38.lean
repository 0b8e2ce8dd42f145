import Derived.Test.YtdnnjahdcabdmaaGreatDoorMO37
import Derived.Test.YtdnnjahdcabdmaaGreatDoorMO28
import Derived.Test.YtdnnjahdcabdmaaGreatDoorMO21
import Derived.Lib.AppendIntMem
/- WorstBalance where the ground is valid and its balances are finite: what is handed back is the balance of a cell that is not fixed. -/
namespace Go.Proofs.YtdnnjahdcabdmaaGreatDoor
open Go.ChangeShapes Go.WideShapes Go.ChangeAt Go.RowKit
set_option linter.unusedVariables false
set_option linter.unusedSimpArgs false
attribute [local irreducible] Calls
theorem fgt_is (a b : Nat) : (FloatKind.f32.format.order a b == some .gt) = fgt a b := fgt_eq a b
set_option maxRecDepth 100000 in
set_option maxHeartbeats 1000000 in
theorem greatestMem_any (L : List Nat) (ff : Nat → Nat) (r c p : Nat) (w : World) (hL : L.length ≤ 64) (hl : ∀ k, k ∈ L → k < 64) (hn : ∀ k, k ∈ L → isN .f32 (ff k) = false) (hown : Own w r 3 1 (.slice (some ⟨r, 0, none⟩) L.length c) L.length (ils L)) (hp : Blk w p (fls 64 ff).toArray 27) :
    Calls Tryz.prog 200 #[.slice (some ⟨r, 0, none⟩) L.length c, .pointer (some ⟨p, 0, none⟩)] w fun e w' => ∃ x : Int, e = .returned (.int .i64 x) ∧ (x = -1 ∨ ∃ k : Nat, k ∈ L ∧ x = k) ∧ Below w.heap.size w w' := by
  have HL := Lib.hid hl
  have HN := Lib.hid hn
  clear hl hn
  go_enter Tryz.func200, Tryz.ntmps200
  go_upto_region 3 with fail
  go_loopw [5, 10] (fun b i wr => ∃ (j : Nat) (x : Int), j ≤ L.length ∧ i = .int .i64 j ∧ b = .int .i64 x ∧ Hid (x = -1 ∨ ∃ k : Nat, k ∈ L ∧ x = k) ∧ Own wr r 3 1 (.slice (some ⟨r, 0, none⟩) L.length c) L.length (ils L) ∧ Blk wr p (fls 64 ff).toArray 27 ∧ Below w.heap.size w wr) (fun _ i _ => L.length - (intOf i).toNat)
  case atStart => exact ⟨0, -1, by omega, rfl, rfl, Lib.hid (.inl rfl), hown, hp, Below.refl _ _⟩
  case round =>
    clear hown hp
    obtain ⟨j, x, hj, rfl, rfl, hx, hown, hp, hbel⟩ := hrel
    have bj : (0 : Int) ≤ j := by omega
    by_cases hlt : j < L.length
    · have bl : (j : Int) < L.length := by omega
      obtain ⟨k, hk⟩ : ∃ k, L[j]? = some k := ⟨_, List.getElem?_eq_getElem hlt⟩
      have hkm := List.mem_of_getElem? hk
      have HKM := Lib.hid hkm
      have hk64 := HL.out k hkm
      have hnk := HN.out k hkm
      have c0 : wr.cell? ⟨r, j, none⟩ = some (.int .i64 k) := (hown.cell _ (by omega)).trans (ils_get _ _ _ hk)
      have c1 : wr.cell? ⟨p, k, none⟩ = some (.float .f32 (ff k)) := (hp.cell _).trans (by rw [List.getElem?_toArray, fls_get 64 _ k hk64])
      have bk : (0 : Int) ≤ k := by omega
      have bk6 : (k : Int) < 64 := by omega
      have HX : Hid ((k : Int) = -1 ∨ ∃ k' : Nat, k' ∈ L ∧ (k : Int) = k') := Lib.hid (.inr ⟨k, hkm, rfl⟩)
      clear hk hkm
      rcases hx.out with rfl | ⟨k0, hk0, rfl⟩
      · clear hx
        go_upto_region 5 with fail
        go_quiet (fail)
        go_wp2_with fail
        go_roundw
        case rel => exact ⟨j + 1, k, by omega, by go_num, rfl, HX, hown.drewN _, hp.drewN _, below_drewN hbel _⟩
        case measure => simp [intOf]; omega
      · have hk064 := HL.out k0 hk0
        have hs1 := fun w' => size_any (ff k) hnk w'
        have hs2 := fun w' => size_any (ff k0) (HN.out k0 hk0) w'
        have c2 : wr.cell? ⟨p, k0, none⟩ = some (.float .f32 (ff k0)) := (hp.cell _).trans (by rw [List.getElem?_toArray, fls_get 64 _ k0 hk064])
        have b0 : (0 : Int) ≤ k0 := by omega
        have b06 : (k0 : Int) < 64 := by omega
        have b0d : decide ((k0 : Int) < 0) = false := by simp
        clear hk0
        have hgt := fgt_is (fab (ff k)) (fab (ff k0))
        generalize fgt (fab (ff k)) (fab (ff k0)) = B at hgt
        cases B
        · go_upto_region 5 with fail
          go_quiet ((go_at_call 199; first | exact Calls.quiet_of_same (hs1 _) | exact Calls.quiet_of_same (hs2 _)))
          go_wp2_with fail
          go_roundw
          case rel => exact ⟨j + 1, k0, by omega, by go_num, rfl, hx, hown.drewN _, hp.drewN _, below_drewN hbel _⟩
          case measure => simp [intOf]; omega
        · go_upto_region 5 with fail
          go_quiet ((go_at_call 199; first | exact Calls.quiet_of_same (hs1 _) | exact Calls.quiet_of_same (hs2 _)))
          go_wp2_with fail
          go_roundw
          case rel => exact ⟨j + 1, k, by omega, by go_num, rfl, HX, hown.drewN _, hp.drewN _, below_drewN hbel _⟩
          case measure => simp [intOf]; omega
    · obtain rfl : j = L.length := by omega
      go_wp2_with fail
      go_ret
      exact ⟨x, rfl, hx.out, hbel⟩
theorem callFixed : Callable Tryz.prog 76 := ⟨_, Tryz.func76, by kernel_rfl, by kernel_rfl⟩
theorem nots_free {g : Gr} {k : Nat} (h : k ∈ nots (isFx g) (cellsTo g 64) (cellsTo g 64).length) : k < 64 ∧ isC g k = true ∧ isFx g k = false := by
  unfold nots at h
  rw [List.take_length, List.mem_filter] at h
  have h1 := cellsTo_mem.1 h.1
  exact ⟨h1.1, h1.2, by simpa using h.2⟩
end Go.Proofs.YtdnnjahdcabdmaaGreatDoor
/- The same numbers, fields, grounds and lists are the same, as the reference asks it. -/
namespace Go.Proofs.YtdnnjahdcabdmaaGreatDoor
open Go.ChangeShapes Go.WideShapes Go.ChangeAt Go.RowKit
set_option linter.unusedVariables false
set_option linter.unusedSimpArgs false
attribute [local irreducible] Calls
theorem run_f32bits (b : Nat) (w : World) : (callFunc 85 #[.float .f32 b]).run Tryz.prog w = .ok (.value (.int .u32 b)) w := by
  kernel_rfl
set_option maxRecDepth 100000 in
set_option maxHeartbeats 400000 in
theorem l01Same_self (x : Nat) (w : World) :
    Calls Tryz.prog 66 #[.float .f32 x, .float .f32 x] w fun e w' => e = .returned (.bool true) ∧ w' = w := by
  have hb := run_f32bits x
  cases hn : isN .f32 x
  · have ho := order_self (k := .f32) hn
    go_enter Tryz.func66, Tryz.ntmps66
    go_wp2_with fail
    go_ret
    exact ⟨rfl, rfl⟩
  · have ho := order_nan_left (k := .f32) (x := x) (y := x) hn
    go_enter Tryz.func66, Tryz.ntmps66
    go_wp2_with fail
    go_ret
    exact ⟨rfl, rfl⟩
set_option maxRecDepth 100000 in
set_option maxHeartbeats 400000 in
theorem sameNumber_self (x : Nat) (w : World) :
    Calls Tryz.prog 20 #[.float .f32 x, .float .f32 x] w fun e w' => e = .returned (.bool true) ∧ w' = w := by
  have h := fun w' => l01Same_self x w'
  go_enter Tryz.func20, Tryz.ntmps20
  go_wp2_with (go_at_call 66; refine (h _).mono ?_; rintro e w' ⟨rfl, hw⟩; rw [hw]; clear hw w')
  go_ret
  exact ⟨rfl, rfl⟩
set_option maxRecDepth 100000 in
set_option maxHeartbeats 400000 in
theorem l01SameField_self (p o q u : Nat) (F : Nat → Nat) (w : World) (h1 : ∀ k, k < 64 → w.cell? ⟨p, o + k, none⟩ = some (.float .f32 (F k))) (h2 : ∀ k, k < 64 → w.cell? ⟨q, u + k, none⟩ = some (.float .f32 (F k))) :
    Calls Tryz.prog 115 #[.pointer (some ⟨p, o, none⟩), .pointer (some ⟨q, u, none⟩)] w fun e w' => e = .returned (.bool true) ∧ ∃ n, w' = w.drewN n := by
  have H1 := Lib.hid h1
  have H2 := Lib.hid h2
  clear h1 h2
  go_enter Tryz.func115, Tryz.ntmps115
  go_upto_region 2 with fail
  go_loopw [5] (fun i wr => ∃ (j n : Nat), j ≤ 64 ∧ i = .int .i64 j ∧ wr = w.drewN n) (fun i _ => 64 - (intOf i).toNat)
  case atStart => exact ⟨0, 0, by omega, rfl, rfl⟩
  case round =>
    obtain ⟨j, n, hj, rfl, hw⟩ := hrel
    have bj : (0 : Int) ≤ j := by omega
    rw [hw]
    clear hw wr
    by_cases hlt : j < 64
    · have bl : (j : Int) < 64 := by omega
      have c1 : (w.drewN n).cell? ⟨p, o + j, none⟩ = some (.float .f32 (F j)) := H1.out j hlt
      have c2 : (w.drewN n).cell? ⟨q, u + j, none⟩ = some (.float .f32 (F j)) := H2.out j hlt
      have hs := fun w' => l01Same_self (F j) w'
      generalize hW : w.drewN n = W at *
      go_upto_region 4 with fail
      go_quiet ((go_at_call 66; exact Calls.quiet_of_same (hs _)))
      go_wp2_with fail
      go_roundw
      case rel => exact ⟨j + 1, n + nq, by omega, by go_num, by rw [← hW, World.drewN_drewN]⟩
      case measure => simp [intOf]; omega
    · obtain rfl : j = 64 := by omega
      go_wp2_with fail
      go_ret
      exact ⟨rfl, n, rfl⟩
end Go.Proofs.YtdnnjahdcabdmaaGreatDoor
/- Two grounds of the same cells are the same; so are two lists of numbers. -/
namespace Go.Proofs.YtdnnjahdcabdmaaGreatDoor
open Go.ChangeShapes Go.WideShapes Go.ChangeAt Go.RowKit
set_option linter.unusedVariables false
set_option linter.unusedSimpArgs false
attribute [local irreducible] Calls
set_option maxRecDepth 100000 in
set_option maxHeartbeats 1000000 in
theorem l01SameGround_self (g : Gr) (p q : Nat) (w : World) (hp : GAt w p g) (hq : GAt w q g) :
    Calls Tryz.prog 65 #[.pointer (some ⟨p, 0, none⟩), .pointer (some ⟨q, 0, none⟩)] w fun e w' => e = .returned (.bool true) ∧ ∃ n, w' = w.drewN n := by
  have c0 := hp.get0
  have c1 := hp.get1
  have c5 := hp.getF
  have d0 := hq.get0
  have d1 := hq.get1
  have d5 := hq.getF
  have hC := fun n => l01SameField_self p 2 q 2 g.con (w.drewN n) (fun k hk => (hp.drewN n).getC k hk) (fun k hk => (hq.drewN n).getC k hk)
  have hG := fun n => l01SameField_self p 66 q 66 g.gai (w.drewN n) (fun k hk => (hp.drewN n).getG k hk) (fun k hk => (hq.drewN n).getG k hk)
  have hH := fun n => l01SameField_self p 130 q 130 g.hea (w.drewN n) (fun k hk => (hp.drewN n).getH k hk) (fun k hk => (hq.drewN n).getH k hk)
  clear hp hq
  go_enter Tryz.func65, Tryz.ntmps65
  go_upto_region 1 with fail
  go_quiet ((go_at_call 115; first | exact Calls.quiet_of (hC _) | exact Calls.quiet_of (hG _) | exact Calls.quiet_of (hH _)))
  go_wp2_with fail
  go_ret
  exact ⟨rfl, _, rfl⟩
set_option maxRecDepth 100000 in
set_option maxHeartbeats 1000000 in
theorem sameGround_self (g : Gr) (w : World) :
    Calls Tryz.prog 19 #[.agg g.cells, .agg g.cells] w fun e w' => e = .returned (.bool true) ∧ Below w.heap.size w w' := by
  have hA : Blk ((w.alloc (.cells g.cells 30)).alloc (.cells g.cells 30)) w.heap.size g.cells 30 := (Blk.new _ _ _).alloc _
  have hB : Blk ((w.alloc (.cells g.cells 30)).alloc (.cells g.cells 30)) (w.heap.size + 1) g.cells 30 := Blk.new1 _ _ _ _
  have hbel := below2 w (.cells g.cells 30) (.cells g.cells 30)
  go_enter Tryz.func19, Tryz.ntmps19
  go_upto_region 1 with (first | (refine wpList_box_as rfl rfl rfl ?_))
  generalize ((w.alloc (.cells g.cells 30)).alloc (.cells g.cells 30)) = W at *
  have hs := l01SameGround_self g _ _ W hA.gat hB.gat
  go_wp2_with (first | (go_at_call 65; refine hs.mono ?_; rintro e w1 ⟨rfl, m, rfl⟩))
  go_ret
  exact ⟨rfl, below_drewN hbel _⟩
end Go.Proofs.YtdnnjahdcabdmaaGreatDoor
/- ReadPermits, in the reference: the walk. -/
namespace Go.Proofs.YtdnnjahdcabdmaaGreatDoor
open Go.ChangeShapes Go.WideShapes Go.ChangeAt Go.RowKit
set_option linter.unusedVariables false
set_option linter.unusedSimpArgs false
attribute [local irreducible] Calls

theorem splitL_len_le (c : UInt8) : ∀ (l : List UInt8), ∀ a ∈ splitL c l, a.length ≤ l.length
  | [], a, h => by have h : a = [] := by simpa [splitL] using h
                   rw [h]; simp
  | x :: l, a, h => by
    have ih := splitL_len_le c l
    rw [splitL] at h
    split at h
    · rcases List.mem_cons.1 h with rfl | h
      · simp
      · have := ih a h; simp; omega
    · cases hs : splitL c l with
      | nil => exact absurd hs (splitL_ne c l)
      | cons b t =>
        rw [hs] at h ih
        rcases List.mem_cons.1 h with rfl | h
        · have := ih b List.mem_cons_self; simp; omega
        · have := ih a (List.mem_cons_of_mem _ h); simp; omega
theorem splitL_get_le (c : UInt8) (l : List UInt8) (i : Nat) : ((splitL c l).getD i []).length ≤ l.length := by
  rw [List.getD_eq_getElem?_getD]
  by_cases h : i < (splitL c l).length
  · rw [List.getElem?_eq_getElem h]; exact splitL_len_le c l _ (List.getElem_mem h)
  · rw [List.getElem?_eq_none (by omega)]; simp
theorem size_of (L : List UInt8) : (⟨L.toArray⟩ : ByteArray).size = L.length := by simp [ByteArray.size]
theorem wrap8 (n : Int) (h : 0 ≤ n ∧ n ≤ 127) : IntKind.i8.wrap n = n := by
  simp [IntKind.wrap, IntKind.bits, IntKind.signed]
  omega
theorem wrap16 (n : Int) (h : 0 ≤ n ∧ n ≤ 32767) : IntKind.i16.wrap n = n := by
  simp [IntKind.wrap, IntKind.bits, IntKind.signed]
  omega
theorem plain_rd {l : List UInt8} {n : Nat} (h : ∀ i, i < n → okW (wordsAt l i)) : plainPt n (rdP l) = decide (n ≤ 6) ∧ ∀ i, i < n → (rdP l i).ok := by
  have hb : ∀ i, i < n → (0 ≤ (rdP l i).own ∧ (rdP l i).own ≤ 7) ∧ (0 ≤ (rdP l i).cel ∧ (rdP l i).cel ≤ 63) ∧ (0 ≤ (rdP l i).rat ∧ (rdP l i).rat ≤ 400) := fun i hi => (okW_row (l := (splitL 10 l).getD i []) (h i hi)).2
  refine ⟨?_, fun i hi => by have := hb i hi; unfold Pm.ok; omega⟩
  unfold plainPt
  rw [anyTo_false.2 fun i hi => by
    have := hb i hi
    unfold badAny badOwner badCell badRate
    simp; omega]
  simp
theorem strs_getD {L : List (List UInt8)} {i : Nat} (h : i < L.length) : (strs L)[i]? = some (.string ⟨(L.getD i []).toArray⟩) := by
  apply strs_get; rw [List.getD_eq_getElem?_getD, List.getElem?_eq_getElem h]; rfl
end Go.Proofs.YtdnnjahdcabdmaaGreatDoor
/- The text of permits, in the program and in the reference: the walks, continued. -/
namespace Go.Proofs.YtdnnjahdcabdmaaGreatDoor
open Go.ChangeShapes Go.WideShapes Go.ChangeAt Go.RowKit
set_option linter.unusedVariables false
set_option linter.unusedSimpArgs false
attribute [local irreducible] Calls
theorem str_nil : (⟨#[]⟩ : ByteArray) = ⟨([] : List UInt8).toArray⟩ := rfl
theorem tab_below {w w' : World} (h : Lib.TabIs Tryz.prog w "internal/strconv.uint64pow10" .u64 Lib.pow10Tab) (hb : Below w.heap.size w w') : Lib.TabIs Tryz.prog w' "internal/strconv.uint64pow10" .u64 Lib.pow10Tab :=
  Lib.tabBelow_of_tabIs h w' hb
set_option maxRecDepth 100000 in
set_option maxHeartbeats 4000000 in
theorem permitsTextI_any (n : Nat) (P : Nat → Pm) (hP : ∀ i, i < n → (P i).ok) (v : Value) (w : World) (hv : PSl w v n P) (htab : Lib.TabIs Tryz.prog w "internal/strconv.uint64pow10" .u64 Lib.pow10Tab) :
    Calls Tryz.prog 9 #[v] w fun e w' => e = .returned (.string ⟨(if plainPt n P then txtPm P n else []).toArray⟩) ∧ Below w.heap.size w w' := by
  have hp := permitsOk_any n P hP v w hv
  obtain ⟨a, c, rfl, hc1, hc2, hcell⟩ := hv
  unfold maxLen at hc2
  have HC := Lib.hid hcell
  clear hcell
  cases h1 : plainPt n P <;> rw [h1] at hp
  · clear h1
    go_enter Tryz.func9, Tryz.ntmps9
    go_wp2_with (go_at_call 48; refine hp.mono ?_; rintro e w1 ⟨rfl, hb⟩)
    go_ret
    exact ⟨rfl, hb⟩
  · obtain ⟨hn6, hbd⟩ := plainPt_parts h1
    have HB := Lib.hid hbd
    have HT := Lib.hid htab
    rw [if_pos rfl]
    clear hbd h1 htab
    go_enter Tryz.func9, Tryz.ntmps9
    go_upto_region 4 with (go_at_call 48; refine hp.mono ?_; rintro e w1 ⟨rfl, hb⟩)
    have hbd := Lib.fresh_isBuilder 94 5 w1
    have hbel := hb.alloc hb.size (.cells #[.pointer none, .slice none 0 0] 94)
    have hq : w1.heap.size ≤ (w1.alloc (.cells #[.pointer none, .slice none 0 0] 94)).heap.size := by simp
    have hz : w.heap.size ≤ w1.heap.size := hb.size
    generalize w1.alloc (.cells #[.pointer none, .slice none 0 0] 94) = W0 at *
    generalize w1.heap.size = q0 at *
    clear hp hb
    go_upto_region 5 with fail
    go_loopw [12] (fun i wr => ∃ k : Nat, k ≤ n ∧ i = .int .i64 k ∧ Lib.IsBuilder 94 5 q0 q0 (Lib.byteCells (txtPm P k)) wr ∧ q0 ≤ wr.heap.size ∧ Below w.heap.size w wr) (fun i _ => n - (intOf i).toNat)
    case atStart => exact ⟨0, by omega, rfl, hbd, hq, hbel⟩
    case round =>
      clear hbd hbel hq
      obtain ⟨k, hk, rfl, hbu, hq, hbel⟩ := hrel
      have bk : (0 : Int) ≤ k := by omega
      by_cases hlt : k < n
      · have bl : (k : Int) < n := by omega
        obtain ⟨b, o, rfl, hb, hcell⟩ := HC.out.resolve_left (by omega)
        have e0 : wr.cell? ⟨b, o + k * 3, none⟩ = some (.int .i8 (P k).own) := (hbel.cell (p := ⟨b, _, none⟩) hb).trans ((hcell k 0 hlt (by omega)).trans (P k).get0)
        have e1 : wr.cell? ⟨b, o + k * 3 + 1, none⟩ = some (.int .i8 (P k).cel) := (hbel.cell (p := ⟨b, _, none⟩) hb).trans ((hcell k 1 hlt (by omega)).trans (P k).get1)
        have e2 : wr.cell? ⟨b, o + k * 3 + 2, none⟩ = some (.int .i16 (P k).rat) := (hbel.cell (p := ⟨b, _, none⟩) hb).trans ((hcell k 2 hlt (by omega)).trans (P k).get2)
        clear hcell
        have hrw := HB.out k hlt
        have hlen := rowPm_len hrw
        have htl := txtPm_len (P := P) (k := k) (fun i hi => HB.out i (by omega))
        have hT : txtPm P (k + 1) = txtPm P k ++ rowPm (P k) := rfl
        obtain ⟨⟨o1, o2⟩, ⟨c1, c2⟩, r1, r2⟩ := hrw
        go_upto_region 7 with fail
        have hX := Blk.new wr #[.int .i8 (P k).own, .int .i8 (P k).cel, .int .i16 (P k).rat] 59
        have hbu := isBuilder_below hbu ((Below.refl _ _).alloc (Nat.le_refl _) (.cells #[.int .i8 (P k).own, .int .i8 (P k).cel, .int .i16 (P k).rat] 59))
        have hbel := hbel.alloc hbel.size (.cells #[.int .i8 (P k).own, .int .i8 (P k).cel, .int .i16 (P k).rat] 59)
        have hqW : q0 ≤ (wr.alloc (.cells #[.int .i8 (P k).own, .int .i8 (P k).cel, .int .i16 (P k).rat] 59)).heap.size := by simp; omega
        generalize wr.alloc (.cells #[.int .i8 (P k).own, .int .i8 (P k).cel, .int .i16 (P k).rat] 59) = W at *
        have x0 := hX.cell 0
        have x1 := hX.cell 1
        have x2 := hX.cell 2
        have l_q := hX.lt
        generalize wr.heap.size = q at *
        have hd1 := fun w' (hb' : Below W.heap.size W w') => decimalI_any (P k).own (by omega) (by omega) w' (tab_below (tab_below HT.out hbel) hb')
        have hd2 := fun w' (hb' : Below W.heap.size W w') => decimalI_any (P k).cel (by omega) (by omega) w' (tab_below (tab_below HT.out hbel) hb')
        have hd3 := fun w' (hb' : Below W.heap.size W w') => decimalI_any (P k).rat (by omega) (by omega) w' (tab_below (tab_below HT.out hbel) hb')
        have q1 := dec_len (x := (P k).own) (by omega)
        have q2 := dec_len (x := (P k).cel) (by omega)
        have q3 := dec_len (x := (P k).rat) (by omega)
        unfold rowPm at hT
        clear hX e0 e1 e2
        generalize Lib.decDigits (P k).own.toNat = D1 at *
        generalize Lib.decDigits (P k).cel.toNat = D2 at *
        generalize Lib.decDigits (P k).rat.toNat = D3 at *
        generalize txtPm P k = T at *
        have u1 := IntWalk.i64_in (P k).own (by omega)
        have u2 := IntWalk.i64_in (P k).cel (by omega)
        have u3 := IntWalk.i64_in (P k).rat (by omega)
        refine wp_splitK 17 (C := fun w' => Below W.heap.size W w') (R := fun w w' => Below w.heap.size w w') (F := fun _ dd vv => match dd, vv with
          | 16, vv => vv = .pointer (some ⟨q, 0, none⟩)
          | 17, vv => vv = .int .i8 ((P k).own)
          | 18, vv => vv = .int .i64 ((P k).own)
          | 19, vv => vv = .string ⟨(D1).toArray⟩
          | 20, vv => vv = .string ⟨((D1 ++ ([32] : List UInt8))).toArray⟩
          | 21, vv => vv = .pointer (some ⟨q, 1, none⟩)
          | 22, vv => vv = .int .i8 ((P k).cel)
          | 23, vv => vv = .int .i64 ((P k).cel)
          | 24, vv => vv = .string ⟨(D2).toArray⟩
          | 25, vv => vv = .string ⟨(((D1 ++ ([32] : List UInt8)) ++ D2)).toArray⟩
          | 26, vv => vv = .string ⟨((((D1 ++ ([32] : List UInt8)) ++ D2) ++ ([32] : List UInt8))).toArray⟩
          | 27, vv => vv = .pointer (some ⟨q, 2, none⟩)
          | 28, vv => vv = .int .i16 ((P k).rat)
          | 29, vv => vv = .int .i64 ((P k).rat)
          | 30, vv => vv = .string ⟨(D3).toArray⟩
          | 31, vv => vv = .string ⟨(((((D1 ++ ([32] : List UInt8)) ++ D2) ++ ([32] : List UInt8)) ++ D3)).toArray⟩
          | 32, vv => vv = .string ⟨((((((D1 ++ ([32] : List UInt8)) ++ D2) ++ ([32] : List UInt8)) ++ D3) ++ ([10] : List UInt8))).toArray⟩
          | _, _ => True) (fun _ _ _ _ _ h => h) (by kernel_rfl) (by kernel_rfl) (by kernel_rfl) (Below.refl _ _).drew ?_ ?_
        · refine ⟨step_go rfl fun ev w1 hC kn => ?_, ?_⟩
          · have e1 : ev (.tmp 5) = .pointer (some ⟨q, 0, none⟩) := kn.out 5 rfl rfl rfl
            exact good_of (v := .pointer (some ⟨q, 0, none⟩)) rfl (by simp only [execOp, e1]; rfl) hC (Below.refl _ _) rfl
          refine ⟨step_go rfl fun ev w1 hC kn => ?_, ?_⟩
          · have e1 : ev (.tmp 16) = .pointer (some ⟨q, 0, none⟩) := kn.inn 16 rfl rfl
            have c1 := (hC.cell (p := ⟨q, 0, none⟩) l_q).trans x0
            exact good_of (v := .int .i8 ((P k).own)) rfl (by simp [execOp, e1, go_sem, c1]) hC (Below.refl _ _) rfl
          refine ⟨step_go rfl fun ev w1 hC kn => ?_, ?_⟩
          · have e1 : ev (.tmp 17) = .int .i8 ((P k).own) := kn.inn 17 rfl rfl
            exact good_of (v := .int .i64 ((P k).own)) rfl (by simp [execOp, e1, go_sem, u1]) hC (Below.refl _ _) rfl
          refine ⟨step_go rfl fun ev w1 hC kn => ?_, ?_⟩
          · have e1 : ev (.tmp 18) = .int .i64 ((P k).own) := kn.inn 18 rfl rfl
            refine good_call (f := 50) (args := #[.int .i64 ((P k).own)]) rfl (by simp [execOp, e1, kn.fn, kn.con, go_sem]) ((hd1 w1 hC).mono fun e w2 ⟨he, hb⟩ => ⟨_, he, hC.trans (hb.mono hC.size), hb, rfl⟩)
          refine ⟨step_go rfl fun ev w1 hC kn => ?_, ?_⟩
          · have e1 : ev (.tmp 19) = .string ⟨(D1).toArray⟩ := kn.inn 19 rfl rfl
            exact good_of (v := .string ⟨((D1 ++ ([32] : List UInt8))).toArray⟩) rfl (by exact exec_addS (A := D1) (B := ([32] : List UInt8)) rfl e1 (kn.con _) (by simp; omega) _) hC (Below.refl _ _) rfl
          refine ⟨step_go rfl fun ev w1 hC kn => ?_, ?_⟩
          · have e1 : ev (.tmp 5) = .pointer (some ⟨q, 0, none⟩) := kn.out 5 rfl rfl rfl
            exact good_of (v := .pointer (some ⟨q, 1, none⟩)) rfl (by simp only [execOp, e1]; rfl) hC (Below.refl _ _) rfl
          refine ⟨step_go rfl fun ev w1 hC kn => ?_, ?_⟩
          · have e1 : ev (.tmp 21) = .pointer (some ⟨q, 1, none⟩) := kn.inn 21 rfl rfl
            have c1 := (hC.cell (p := ⟨q, 1, none⟩) l_q).trans x1
            exact good_of (v := .int .i8 ((P k).cel)) rfl (by simp [execOp, e1, go_sem, c1]) hC (Below.refl _ _) rfl
          refine ⟨step_go rfl fun ev w1 hC kn => ?_, ?_⟩
          · have e1 : ev (.tmp 22) = .int .i8 ((P k).cel) := kn.inn 22 rfl rfl
            exact good_of (v := .int .i64 ((P k).cel)) rfl (by simp [execOp, e1, go_sem, u2]) hC (Below.refl _ _) rfl
          refine ⟨step_go rfl fun ev w1 hC kn => ?_, ?_⟩
          · have e1 : ev (.tmp 23) = .int .i64 ((P k).cel) := kn.inn 23 rfl rfl
            refine good_call (f := 50) (args := #[.int .i64 ((P k).cel)]) rfl (by simp [execOp, e1, kn.fn, kn.con, go_sem]) ((hd2 w1 hC).mono fun e w2 ⟨he, hb⟩ => ⟨_, he, hC.trans (hb.mono hC.size), hb, rfl⟩)
          refine ⟨step_go rfl fun ev w1 hC kn => ?_, ?_⟩
          · have e1 : ev (.tmp 20) = .string ⟨((D1 ++ ([32] : List UInt8))).toArray⟩ := kn.inn 20 rfl rfl
            have e2 : ev (.tmp 24) = .string ⟨(D2).toArray⟩ := kn.inn 24 rfl rfl
            exact good_of (v := .string ⟨(((D1 ++ ([32] : List UInt8)) ++ D2)).toArray⟩) rfl (by exact exec_addS (A := (D1 ++ ([32] : List UInt8))) (B := D2) rfl e1 e2 (by simp; omega) _) hC (Below.refl _ _) rfl
          refine ⟨step_go rfl fun ev w1 hC kn => ?_, ?_⟩
          · have e1 : ev (.tmp 25) = .string ⟨(((D1 ++ ([32] : List UInt8)) ++ D2)).toArray⟩ := kn.inn 25 rfl rfl
            exact good_of (v := .string ⟨((((D1 ++ ([32] : List UInt8)) ++ D2) ++ ([32] : List UInt8))).toArray⟩) rfl (by exact exec_addS (A := ((D1 ++ ([32] : List UInt8)) ++ D2)) (B := ([32] : List UInt8)) rfl e1 (kn.con _) (by simp; omega) _) hC (Below.refl _ _) rfl
          refine ⟨step_go rfl fun ev w1 hC kn => ?_, ?_⟩
          · have e1 : ev (.tmp 5) = .pointer (some ⟨q, 0, none⟩) := kn.out 5 rfl rfl rfl
            exact good_of (v := .pointer (some ⟨q, 2, none⟩)) rfl (by simp only [execOp, e1]; rfl) hC (Below.refl _ _) rfl
          refine ⟨step_go rfl fun ev w1 hC kn => ?_, ?_⟩
          · have e1 : ev (.tmp 27) = .pointer (some ⟨q, 2, none⟩) := kn.inn 27 rfl rfl
            have c1 := (hC.cell (p := ⟨q, 2, none⟩) l_q).trans x2
            exact good_of (v := .int .i16 ((P k).rat)) rfl (by simp [execOp, e1, go_sem, c1]) hC (Below.refl _ _) rfl
          refine ⟨step_go rfl fun ev w1 hC kn => ?_, ?_⟩
          · have e1 : ev (.tmp 28) = .int .i16 ((P k).rat) := kn.inn 28 rfl rfl
            exact good_of (v := .int .i64 ((P k).rat)) rfl (by simp [execOp, e1, go_sem, u3]) hC (Below.refl _ _) rfl
          refine ⟨step_go rfl fun ev w1 hC kn => ?_, ?_⟩
          · have e1 : ev (.tmp 29) = .int .i64 ((P k).rat) := kn.inn 29 rfl rfl
            refine good_call (f := 50) (args := #[.int .i64 ((P k).rat)]) rfl (by simp [execOp, e1, kn.fn, kn.con, go_sem]) ((hd3 w1 hC).mono fun e w2 ⟨he, hb⟩ => ⟨_, he, hC.trans (hb.mono hC.size), hb, rfl⟩)
          refine ⟨step_go rfl fun ev w1 hC kn => ?_, ?_⟩
          · have e1 : ev (.tmp 26) = .string ⟨((((D1 ++ ([32] : List UInt8)) ++ D2) ++ ([32] : List UInt8))).toArray⟩ := kn.inn 26 rfl rfl
            have e2 : ev (.tmp 30) = .string ⟨(D3).toArray⟩ := kn.inn 30 rfl rfl
            exact good_of (v := .string ⟨(((((D1 ++ ([32] : List UInt8)) ++ D2) ++ ([32] : List UInt8)) ++ D3)).toArray⟩) rfl (by exact exec_addS (A := (((D1 ++ ([32] : List UInt8)) ++ D2) ++ ([32] : List UInt8))) (B := D3) rfl e1 e2 (by simp; omega) _) hC (Below.refl _ _) rfl
          refine ⟨step_go rfl fun ev w1 hC kn => ?_, ?_⟩
          · have e1 : ev (.tmp 31) = .string ⟨(((((D1 ++ ([32] : List UInt8)) ++ D2) ++ ([32] : List UInt8)) ++ D3)).toArray⟩ := kn.inn 31 rfl rfl
            exact good_of (v := .string ⟨((((((D1 ++ ([32] : List UInt8)) ++ D2) ++ ([32] : List UInt8)) ++ D3) ++ ([10] : List UInt8))).toArray⟩) rfl (by exact exec_addS (A := ((((D1 ++ ([32] : List UInt8)) ++ D2) ++ ([32] : List UInt8)) ++ D3)) (B := ([10] : List UInt8)) rfl e1 (kn.con _) (by simp; omega) _) hC (Below.refl _ _) rfl
          exact trivial
        rintro xv w1 hxv hC
        have y32 : xv 32 = .string ⟨((((((D1 ++ ([32] : List UInt8)) ++ D2) ++ ([32] : List UInt8)) ++ D3) ++ ([10] : List UInt8))).toArray⟩ := hxv 32 (by decide)
        simp only [fill, dstsOf, List.filterMap_cons, List.filterMap_nil, List.foldl_cons, List.foldl_nil, List.set_cons_succ, List.set_cons_zero, List.take_succ_cons, List.take_zero, List.drop_succ_cons, List.drop_zero, y32]
        clear hxv y32
        have hbu := isBuilder_below hbu hC
        have hq2 : q0 ≤ w1.heap.size := Nat.le_trans hqW hC.size
        have hSl : (D1 ++ ([32] : List UInt8) ++ D2 ++ ([32] : List UInt8) ++ D3 ++ ([10] : List UInt8)).length ≤ 12 := by simp; omega
        generalize (D1 ++ ([32] : List UInt8) ++ D2 ++ ([32] : List UInt8) ++ D3 ++ ([10] : List UInt8)) = S at *
        have hw := writeString_any q0 q0 _ ⟨S.toArray⟩ w1 hbu (by rw [byteCells_len]; simp [ByteArray.size]; omega) hq2
        rw [strCells_eq, byteCells_app, ← hT] at hw
        have hbelC := hbel.trans (hC.mono hbel.size)
        go_wp2_with (go_at_call 49; refine hw.mono ?_; rintro e w2 ⟨rfl, hbu2, hb2⟩)
        go_roundw
        case rel => exact ⟨k + 1, by omega, by go_num, .inr hbu2, Nat.le_trans hq2 hb2.size, hbelC.trans (hb2.mono hz)⟩
        case measure => simp [intOf]; omega
      · obtain rfl : k = n := by omega
        have hst := sh_Builder_String_any q0 q0 (txtPm P k) wr hbu hq
        go_wp2_with (go_at_call 51; refine hst.mono ?_; rintro e w2 ⟨rfl, hb2⟩)
        go_ret
        exact ⟨rfl, hbel.trans (hb2.mono hz)⟩
end Go.Proofs.YtdnnjahdcabdmaaGreatDoor
