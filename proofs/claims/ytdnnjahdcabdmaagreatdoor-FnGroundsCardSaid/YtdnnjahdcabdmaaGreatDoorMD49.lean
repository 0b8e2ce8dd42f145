import Derived.Test.YtdnnjahdcabdmaaGreatDoorMD48
import Derived.Test.YtdnnjahdcabdmaaGreatDoorMD44
import Derived.Test.YtdnnjahdcabdmaaGreatDoorMD43
import Derived.Test.YtdnnjahdcabdmaaGreatDoorMD42
/- ReadGround, in the program: the walk. -/
namespace Go.Proofs.YtdnnjahdcabdmaaGreatDoor
open Go.ChangeShapes Go.WideShapes Go.ChangeAt Go.RowKit
set_option linter.unusedVariables false
set_option linter.unusedSimpArgs false
attribute [local irreducible] Calls

theorem cutW_le (l : List UInt8) (c : UInt8) : (Lib.cut l [c]).1.length ≤ l.length ∧ (Lib.cut l [c]).2.1.length ≤ l.length := by
  unfold Lib.cut
  split
  · simp; omega
  · simp
theorem cell_on {w w' : World} {p : Addr} {v : Value} (h : w.cell? p = some v) (hb : Below w.heap.size w w') : w'.cell? p = some v := (hb.cell (Lib.lt_of_cell h)).trans h
/-- The ground with its first numbers of a cell set. -/
def stG (G : Gr) (c a b d : Nat) : Nat → Gr
  | 0 => G
  | 1 => { G with con := upd G.con c a }
  | 2 => { G with con := upd G.con c a, gai := upd G.gai c b }
  | _ => { G with con := upd G.con c a, gai := upd G.gai c b, hea := upd G.hea c d }
def ptrsG (q : Nat) : Array Value := #[.pointer (some ⟨q, 2, none⟩), .pointer (some ⟨q, 66, none⟩), .pointer (some ⟨q, 130, none⟩)]
theorem rdG_good {l : List UInt8} (hg : SpecG l) : (if validG (gdI l) then txtGr (gdI l) else []) = l ∧ l ≠ [] := by
  obtain ⟨h1, h2, h3⟩ := (goodG_I l).1 hg
  rw [h2, if_pos rfl]
  refine ⟨h3, fun e => ?_⟩
  rw [e] at h3
  unfold txtGr headG at h3
  simp at h3
theorem rdG_bad {l : List UInt8} (h : ∀ k, k < 64 → isC (gdI0 l) k = true → 1 + (cellsTo (gdI0 l) k).length < (splitL 10 l).length ∧ (wdOf (gdI0 l) l k).length = 4) (ht : (if validG (gdI l) then txtGr (gdI l) else []) = l) (hn : l ≠ []) : SpecG l := by
  cases hv : validG (gdI l) <;> rw [hv] at ht
  · exact absurd ht.symm hn
  · exact (goodG_I l).2 ⟨h, hv, by simpa using ht⟩
set_option maxRecDepth 100000 in
set_option maxHeartbeats 8000000 in
theorem readGroundI_any (s : ByteArray) (hs : s.size ≤ 1048576) (w : World) (hV : NumVars w) (htab : Lib.TabIs Tryz.prog w "internal/strconv.uint64pow10" .u64 Lib.pow10Tab) (m : Int) (hm : w.cell? ⟨1, 0, none⟩ = some (.int .i64 m)) :
    Calls Tryz.prog 24 #[.string s] w fun e w' => ∃ G c, e = .returned (.tuple #[.agg (Gr.cells G), .int .i64 c]) ∧ ((SpecG s.data.toList ∧ G = gdR s.data.toList ∧ c = 0) ∨ (¬ SpecG s.data.toList ∧ G = zeroGr ∧ c = 5)) ∧ Below w.heap.size w w' := by
  have hspl := fun w' (hb : Below w.heap.size w w') => splitAll_any s hs w' m (cell_on hm hb)
  have hst0 : (⟨s.data.toList.toArray⟩ : ByteArray) = s := rfl
  have hll : s.data.toList.length = s.size := rfl
  have HST := Lib.hid hst0
  have HV := Lib.hid hV
  have HT := Lib.hid htab
  have HM := Lib.hid hm
  clear hst0 hV htab hm
  generalize s.data.toList = l at *
  have hpos := List.length_pos_iff.2 (splitL_ne 10 l)
  have hlen := splitL_length 10 l
  have HLL := Lib.hid fun i => Nat.le_trans (splitL_get_le 10 l i) (show l.length ≤ 1048576 by omega)
  have HSTR := Lib.hid fun i (h : i < (splitL 10 l).length) => strs_getD (L := splitL 10 l) (i := i) h
  obtain ⟨n, hn⟩ : ∃ n, (splitL 10 l).length = n := ⟨_, rfl⟩
  have HN := Lib.hid hn
  have HGI := Lib.hid (goodG_I l)
  have HRG := Lib.hid fun h : SpecG l => rdG_good h
  have HRB := Lib.hid fun a b c => rdG_bad (l := l) a b c
  have HSM : Hid (SpecG l → gdI l = gdR l) := Lib.hid fun h => goodG_same h
  rw [hn] at hspl hpos hlen
  clear hn
  go_enter Tryz.func24, Tryz.ntmps24
  go_upto_region 1 with (refine wpList_alloc_as rfl rfl zero66 ?_)
  have hR := Blk.new w zeroGr.cells 30
  have hbel := below1 w (.cells zeroGr.cells 30)
  change Code.wp _ _ _ _ (w.alloc (.cells zeroGr.cells 30))
  have HZ : Hid ((w.alloc (.cells zeroGr.cells 30)).heap.size = w.heap.size + 1) := Lib.hid (World.size_alloc _ _)
  generalize w.alloc (.cells zeroGr.cells 30) = W at *
  have hspl := hspl W hbel
  go_upto_region 2 with (go_at_call 70; refine hspl.mono ?_; rintro e w1 ⟨v4, g4, rfl, hO4, hg4, hb4⟩)
  clear hspl
  obtain ⟨cap4, cur4, rfl, hc41, hc42, hB4, hcur4⟩ := own_cur hO4
  unfold maxLen at hc42
  have HCUR : Hid (∀ j, j < n → cur4[j]? = some (.string ⟨((splitL 10 l).getD j []).toArray⟩)) := Lib.hid fun j hj => (hcur4 j hj).trans (HSTR.out j (by rw [HN.out]; exact hj))
  have hz1 := HZ.out
  have hR := hR.below hb4 (by omega)
  have hbw := hbel.trans (hb4.mono (by omega))
  have hq0 : w.heap.size < w1.heap.size := by have := hb4.size; omega
  have hg4q : w.heap.size < g4 := by omega
  clear hO4 hcur4 hb4 hbel hz1 hg4
  have c0 := (hB4.cell 0).trans (HCUR.out 0 hpos)
  have hcut := sh_strings_Cut ⟨((splitL 10 l).getD 0 []).toArray⟩ ⟨#[32]⟩ m w1 (by rw [size_of]; have := HLL.out 0; omega) (cell_on HM.out hbw)
  rw [show (⟨((splitL 10 l).getD 0 []).toArray⟩ : ByteArray).data.toList = (splitL 10 l).getD 0 [] by simp, show (⟨#[32]⟩ : ByteArray).data.toList = [32] from rfl] at hcut
  have hcl := cutW_le ((splitL 10 l).getD 0 []) 32
  have hcl1 := Nat.le_trans hcl.1 (HLL.out 0)
  have hcl2 := Nat.le_trans hcl.2 (HLL.out 0)
  have hgd : gdI0 l = ⟨sizeZ (Lib.cut ((splitL 10 l).getD 0 []) [32]).1, sizeZ (Lib.cut ((splitL 10 l).getD 0 []) [32]).2.1, fun _ => 0, fun _ => 0, fun _ => 0, 0⟩ := rfl
  clear hcl
  generalize (Lib.cut ((splitL 10 l).getD 0 []) [32]).1 = wa at *
  generalize (Lib.cut ((splitL 10 l).getD 0 []) [32]).2.1 = wb at *
  generalize (Lib.cut ((splitL 10 l).getD 0 []) [32]).2.2 = wc at *
  have hra := fun w' => readSize_any ⟨wa.toArray⟩ (by rw [size_of]; exact hcl1) w'
  have hrb := fun w' => readSize_any ⟨wb.toArray⟩ (by rw [size_of]; exact hcl2) w'
  rw [show (⟨wa.toArray⟩ : ByteArray).data.toList = wa by simp] at hra
  rw [show (⟨wb.toArray⟩ : ByteArray).data.toList = wb by simp] at hrb
  have hxb := sizeZ_bd wa
  have hyb := sizeZ_bd wb
  generalize sizeZ wa = x at *
  generalize sizeZ wb = y at *
  generalize wa.toArray = s1 at *
  generalize wb.toArray = s2 at *
  clear hcl1 hcl2
  go_upto_region 3 with (go_at_call 71; refine hcut.mono ?_; rintro e w2 ⟨rfl, nq, rfl⟩)
  have hR := hR.drewN nq
  have hB4 := hB4.drewN nq
  have hbw := below_drewN hbw nq
  replace hq0 : w.heap.size < (w1.drewN nq).heap.size := hq0
  clear hcut c0
  generalize w1.drewN nq = w2 at *
  have hg0 : (gdI0 l).ok := by rw [hgd]; exact ⟨by simp only; omega, by simp only; omega, by simp only; omega⟩
  have HG0 := Lib.hid hg0
  have HGD := Lib.hid hgd
  clear hg0 hgd hxb hyb
  go_upto_region 4 with (first | (go_at_call 72; first | (refine (hra _).mono ?_; rintro e w' ⟨rfl, hw⟩; rw [hw]; clear hw w' hra) | (refine (hrb _).mono ?_; rintro e w' ⟨rfl, hw⟩; rw [hw]; clear hw w' hrb)) | (refine wpList_alloc_as rfl rfl zero66 ?_) | (refine wpList_store_last rfl rfl rfl rfl rfl (by rw [builtGr, Gr.size]; kernel_rfl) (by rw [builtGr, Gr.size, Gr.size]) (by rw [builtGr]; exact List.all_eq_true.2 (Gr.one _)) ?_))
  have hB1 := Blk.new w2 ((Tryz.zeroCells30.setIfInBounds 0 (.int .i8 x)).setIfInBounds 1 (.int .i8 y)) 30
  rw [builtGr, ← HGD.out] at hB1 ⊢
  have hR := hR.alloc (.cells (gdI0 l).cells 30)
  have hB4 := hB4.alloc (.cells (gdI0 l).cells 30)
  have hbw := hbw.alloc (by omega) (.cells (gdI0 l).cells 30)
  have hsz3 : (w2.alloc (.cells (gdI0 l).cells 30)).heap.size = w2.heap.size + 1 := World.size_alloc _ _
  have HS3 := Lib.hid hsz3
  clear hsz3
  generalize w2.alloc (.cells (gdI0 l).cells 30) = W3 at *
  have HQ1 : Hid (w.heap.size < w2.heap.size) := Lib.hid hq0
  have hcs := cells_any (gdI0 l) w2.heap.size HG0.out W3 hB1.gat
  have g4lt := hB4.lt
  clear hq0
  have hg4ne : g4 ≠ w2.heap.size := fun e => by
    have h1 : W3.heap[w2.heap.size]? = some (.cells cur4 9 (0, 0)) := by rw [← e]; exact hB4
    have h2 : W3.heap[w2.heap.size]? = some (.cells (gdI0 l).cells 30 (0, 0)) := hB1
    rw [h1] at h2
    injection h2 with h3
    injection h3 with h4 h5
    exact absurd h5 (by decide)
  generalize w2.heap.size = q1 at *
  go_upto_region 5 with (go_at_call 73; refine hcs.mono ?_; rintro e w4 ⟨r, capr, rfl, hr4, hO6, hb6⟩)
  clear hcs
  obtain ⟨cur6, hc61, hB6, hcur6⟩ : ∃ cur6, (cellsTo (gdI0 l) 64).length ≤ capr ∧ Blk w4 r cur6 3 ∧ ∀ j, j < (cellsTo (gdI0 l) 64).length → cur6[j]? = (ils (cellsTo (gdI0 l) 64))[j]? := by
    obtain ⟨cap6, cur6, he6, h1, _, h2, h3⟩ := own_cur hO6
    injection he6 with e1 e2 e3
    subst e3
    exact ⟨cur6, h1, h2, h3⟩
  have q1l := HS3.out
  have hq1 := HQ1.out
  have hst : RG w w4 w.heap.size q1 g4 r cur4 cur6 9 3 (gdT (gdI0 l) l ((cellsTo (gdI0 l) 64).take 0)) := by
    rw [List.take_zero, gdT_nil l rfl]
    exact ⟨hR.below hb6 hR.lt, hB1.below hb6 hB1.lt, hB4.below hb6 hB4.lt, hB6, hbw.trans (hb6.mono hbw.size), ⟨Nat.le_refl _, hq1⟩, hg4ne, by omega⟩
  have HC6 : Hid (∀ j (h : j < (cellsTo (gdI0 l) 64).length), cur6[j]? = some (.int .i64 ((cellsTo (gdI0 l) 64)[j] : Nat))) := Lib.hid fun j hj => (hcur6 j hj).trans (ils_get _ j _ (List.getElem?_eq_getElem hj))
  clear hO6 hcur6 hb6 hR hB1 hB4 hB6 hbw hr4 hq1 q1l g4lt hg4ne hg4q HS3 HQ1
  obtain ⟨N, hNN⟩ : ∃ N, (cellsTo (gdI0 l) 64).length = N := ⟨_, rfl⟩
  have HNN := Lib.hid hNN
  have hN64 : N ≤ 64 := by rw [← hNN]; exact cellsTo_length _ 64
  rw [hNN] at hc61 ⊢
  clear hNN
  go_loopw [31] (fun vi wr => ∃ j : Nat, j ≤ N ∧ vi = .int .i64 j ∧ RG w wr w.heap.size q1 g4 r cur4 cur6 9 3 (gdT (gdI0 l) l ((cellsTo (gdI0 l) 64).take j)) ∧ Hid (∀ k, k ∈ (cellsTo (gdI0 l) 64).take j → 1 + (cellsTo (gdI0 l) k).length < (splitL 10 l).length ∧ (wdOf (gdI0 l) l k).length = 4)) (fun vi _ => N - (intOf vi).toNat)
  case atStart => exact ⟨0, by omega, rfl, hst, Lib.hid fun k hk => by rw [List.take_zero] at hk; cases hk⟩
  case round =>
    clear hst
    obtain ⟨j, hj, rfl, hst, hrows⟩ := hrel
    have bj : (0 : Int) ≤ j := by omega
    by_cases hlt : j < N
    · have bl : (j : Int) < N := by omega
      obtain ⟨c, hc⟩ : ∃ c, (cellsTo (gdI0 l) 64)[j]? = some c := ⟨_, List.getElem?_eq_getElem (by rw [HNN.out]; exact hlt)⟩
      have hcm := cellsTo_lt (List.mem_of_getElem? hc)
      have hc64 : c < 64 := hcm.1
      have HISC : Hid (isC (gdI0 l) c = true) := Lib.hid hcm.2
      have HRK : Hid ((cellsTo (gdI0 l) c).length = j) := Lib.hid (take_cell hc)
      have HTK : Hid ((cellsTo (gdI0 l) 64).take (j + 1) = (cellsTo (gdI0 l) 64).take j ++ [c]) := Lib.hid (by rw [List.take_add_one, hc]; rfl)
      have ec : cur6[j]? = some (.int .i64 c) := by
        rw [HC6.out j (by rw [HNN.out]; exact hlt)]
        rw [List.getElem?_eq_getElem (by rw [HNN.out]; exact hlt)] at hc
        rw [Option.some.inj hc]
      have e9 := (hst.bB.cell j).trans ec
      have bc : (0 : Int) ≤ c := by omega
      have bc2 : (c : Int) < 64 := by omega
      clear hc hcm ec
      by_cases hln : j + 1 < n
      rotate_left
      · have bn : (n : Int) ≤ (j : Int) + 1 := by omega
        have HNO : Hid (¬ SpecG l) := Lib.hid fun q => by
          have h := (((HGI.out).1 q).1 c hc64 HISC.out).1
          rw [HRK.out, HN.out] at h
          omega
        go_wp2_with (refine wpList_store_blk (C' := Tryz.zeroCells30) rfl rfl rfl rfl row66 hst.b0 zeroGr.size zc_size zc_one ?_)
        refine bodyPost_row2 rfl rfl row66 (hst.b0.setRow _) zc_size rfl ?_
        exact ⟨zeroGr, 5, by rw [← zeroCells_gr]; rfl, .inr ⟨HNO.out, rfl, rfl⟩, below_setRow hst.bel hst.le.1 _⟩
      have bn : ¬ (n : Int) ≤ (j : Int) + 1 := by omega
      have cl := (hst.bA.cell (j + 1)).trans (HCUR.out (j + 1) hln)
      obtain ⟨P, cap8, C8, hP5, hPiff, hspn, hown⟩ := lineSplit ⟨((splitL 10 l).getD (j + 1) []).toArray⟩ (by rw [size_of]; exact HLL.out (j + 1)) 4 (by decide)
      rw [show (⟨((splitL 10 l).getD (j + 1) []).toArray⟩ : ByteArray).data.toList = (splitL 10 l).getD (j + 1) [] by simp] at hPiff hown
      have hwd : wdOf (gdI0 l) l c = splitL 32 ((splitL 10 l).getD (j + 1) []) := by unfold wdOf; rw [HRK.out, Nat.add_comm 1 j]
      rw [← hwd] at hPiff hown
      have hspn := hspn wr m (cell_on HM.out hst.bel)
      have hspn : Calls Tryz.prog 74 #[.string ⟨((splitL 10 l).getD (j + 1) []).toArray⟩, .string ⟨#[32]⟩, .int .i64 5] wr fun e w' => e = .returned (.slice (some ⟨wr.heap.size, 0, none⟩) P cap8) ∧ w' = wr.alloc (.cells C8 9) := hspn
      have hwle : ∀ i, ((wdOf (gdI0 l) l c).getD i []).length ≤ 1048576 := fun i => by
        rw [hwd]; exact Nat.le_trans (splitL_get_le 32 _ i) (HLL.out _)
      have HWLE := Lib.hid hwle
      have hSN := gdT_snoc (gdI0 l) l ((cellsTo (gdI0 l) 64).take j) c
      have hmN : ∀ i, nmOf (gdI0 l) l i c = numB ((wdOf (gdI0 l) l c).getD i []) := fun i => rfl
      have hmF : fxOf (gdI0 l) l c = decide ((wdOf (gdI0 l) l c).getD 0 [] = [102, 105, 120, 101, 100]) := rfl
      rw [hmN, hmN, hmN, hmF] at hSN
      have HSN := Lib.hid hSN
      have HN4 : Hid ((wdOf (gdI0 l) l c).length ≠ 4 → ¬ SpecG l) := Lib.hid fun h q => h (((HGI.out).1 q).1 c hc64 HISC.out).2
      have HRW : Hid ((wdOf (gdI0 l) l c).length = 4 → ∀ k, k ∈ (cellsTo (gdI0 l) 64).take (j + 1) → 1 + (cellsTo (gdI0 l) k).length < (splitL 10 l).length ∧ (wdOf (gdI0 l) l k).length = 4) := Lib.hid fun h k hk => by
        rw [HTK.out] at hk
        rcases List.mem_append.1 hk with hk | hk
        · exact hrows.out k hk
        · obtain rfl : k = c := by simpa using hk
          exact ⟨by rw [HRK.out, HN.out]; omega, h⟩
      clear hwd hwle hmN hmF hSN
      generalize wdOf (gdI0 l) l c = ws at *
      generalize hG0 : gdT (gdI0 l) l ((cellsTo (gdI0 l) 64).take j) = G0 at *
      have HG0K : Hid G0.ok := Lib.hid (by rw [← hG0]; exact gdT_ok HG0.out _ _)
      clear hG0
      have q1lt := hst.b1.lt
      go_upto_region 10 with (go_at_call 74; refine hspn.mono ?_; rintro e w5 ⟨rfl, rfl⟩)
      clear hspn cl e9
      replace hst := hst.below (below1 wr (.cells C8 9))
      have hB8 := Blk.new wr C8 9
      have hg8q : wr.heap.size ≠ q1 := by omega
      clear q1lt
      generalize wr.alloc (.cells C8 9) = W5 at *
      generalize wr.heap.size = g8 at *
      by_cases hP : P = 4
      rotate_left
      · have bP : ¬ ((P : Nat) : Int) = 4 := by omega
        have HNO : Hid (¬ SpecG l) := Lib.hid (HN4.out fun q => hP (hPiff.2 q))
        clear hP hPiff hown
        go_wp2_with (refine wpList_store_blk (C' := Tryz.zeroCells30) rfl rfl rfl rfl row66 hst.b0 zeroGr.size zc_size zc_one ?_)
        refine bodyPost_row2 rfl rfl row66 (hst.b0.setRow _) zc_size rfl ?_
        exact ⟨zeroGr, 5, by rw [← zeroCells_gr]; rfl, .inr ⟨HNO.out, rfl, rfl⟩, below_setRow hst.bel hst.le.1 _⟩
      subst hP
      have h4 : ws.length = 4 := hPiff.1 rfl
      have hO8 := hown rfl W5 g8 hB8
      have hget := fun i (hi : i < 4) => (hB8.cell i).symm.trans ((hO8.cell i (by omega)).trans (strs_getD (L := ws) (i := i) (by omega)))
      have HE0 := Lib.hid (hget 0 (by decide))
      have HE1 := Lib.hid (hget 1 (by decide))
      have HE2 := Lib.hid (hget 2 (by decide))
      have HE3 := Lib.hid (hget 3 (by decide))
      have HRD1 := Lib.hid fun w' (hV' : NumVars w') => readNumberI_any ⟨(ws.getD 1 []).toArray⟩ (by rw [size_of]; exact HWLE.out 1) w' hV'
      have HRD2 := Lib.hid fun w' (hV' : NumVars w') => readNumberI_any ⟨(ws.getD 2 []).toArray⟩ (by rw [size_of]; exact HWLE.out 2) w' hV'
      have HRD3 := Lib.hid fun w' (hV' : NumVars w') => readNumberI_any ⟨(ws.getD 3 []).toArray⟩ (by rw [size_of]; exact HWLE.out 3) w' hV'
      rw [show (⟨(ws.getD 1 []).toArray⟩ : ByteArray).data.toList = ws.getD 1 [] by simp] at HRD1
      rw [show (⟨(ws.getD 2 []).toArray⟩ : ByteArray).data.toList = ws.getD 2 [] by simp] at HRD2
      rw [show (⟨(ws.getD 3 []).toArray⟩ : ByteArray).data.toList = ws.getD 3 [] by simp] at HRD3
      replace HRW := Lib.hid (HRW.out h4)
      have hc8 : 4 ≤ cap8 ∧ cap8 ≤ maxLen := by
        obtain ⟨cq, he8, h1, h2⟩ := hO8.form
        injection he8 with e1 e2 e3
        subst e3
        exact ⟨by omega, h2⟩
      obtain ⟨hc81, hc82⟩ := hc8
      unfold maxLen at hc82
      clear hget hO8 hown hPiff hP5 h4 HN4
      have e0 := (hB8.cell 0).trans HE0.out
      generalize numB (ws.getD 1 []) = x1 at *
      generalize numB (ws.getD 2 []) = x2 at *
      generalize numB (ws.getD 3 []) = x3 at *
      generalize numC (ws.getD 1 []) = z1 at *
      generalize numC (ws.getD 2 []) = z2 at *
      generalize numC (ws.getD 3 []) = z3 at *
      generalize ws.getD 1 [] = s1 at *
      generalize ws.getD 2 [] = s2 at *
      generalize ws.getD 3 [] = s3 at *
      generalize ws.getD 0 [] = v0 at *
      by_cases hfx : v0 = [102, 105, 120, 101, 100]
      · replace HSN := HSN.out
        rw [show decide (v0 = [102, 105, 120, 101, 100]) = true from decide_eq_true hfx, if_pos rfl] at HSN
        replace HSN := Lib.hid HSN
        subst hfx
        have cF := hst.b1.gat.getF
        have fF := hst.b1.free 194
        go_upto_region 13 with fail
        go_region
        rw [orB_eq]
        replace hst := hst.cell 194 (.int .u64 (orB G0.fix c)) (Gr.setF _ _)
        replace hst := hst.drew
        replace hB8 := (hB8.setOther (a := ⟨q1, 194, none⟩) (.int .u64 (orB G0.fix c)) hg8q).drew
        clear e0 cF fF
        generalize (W5.setCell ⟨q1, 194, none⟩ (.int .u64 (orB G0.fix c))).drew = W6 at *
        have HL6 : Hid (q1 < W6.heap.size) := Lib.hid hst.b1.lt
        go_upto_region 15 with fail
        have hX := Blk.new W6 (ptrsG q1) 123
        replace hst := hst.below (below1 W6 (.cells (ptrsG q1) 123))
        replace hB8 := hB8.alloc (.cells (ptrsG q1) 123)
        change Code.wp _ _ _ _ (W6.alloc (.cells (ptrsG q1) 123))
        have hqx : W6.heap.size ≠ q1 := by have := HL6.out; omega
        generalize W6.alloc (.cells (ptrsG q1) 123) = W7 at *
        generalize W6.heap.size = qx at *
        have hX0 : ptrsG q1 = #[.pointer (some ⟨q1, 2, none⟩), .pointer (some ⟨q1, 66, none⟩), .pointer (some ⟨q1, 130, none⟩)] := rfl
        have HX0 := Lib.hid hX0
        clear hX0
        generalize ptrsG q1 = CX at *
        go_loopw [67] (fun vi wr => ∃ i : Nat, i ≤ 3 ∧ vi = .int .i64 i ∧ RG w wr w.heap.size q1 g4 r cur4 cur6 9 3 (stG ({ G0 with fix := orB G0.fix c } : Gr) c x1 x2 x3 i) ∧ Blk wr g8 C8 9 ∧ Blk wr qx CX 123) (fun vi _ => 3 - (intOf vi).toNat)
        case atStart => exact ⟨0, by omega, rfl, hst, hB8, hX⟩
        case round =>
          clear hst hB8 hX
          obtain ⟨i, hi, rfl, hst, hB8, hX⟩ := hrel
          by_cases hi3 : i < 3
          · obtain rfl | rfl | rfl : i = 0 ∨ i = 1 ∨ i = 2 := by omega
            · have e8 := (hX.cell 0).trans (show CX[0]? = some (.pointer (some ⟨q1, 2, none⟩)) by rw [HX0.out]; rfl)
              have f1 := (hB8.cell 1).trans HE1.out
              have l_g8 := hB8.lt
              have bi : (0 : Int) ≤ 0 ∧ (0 : Int) < 3 := by decide
              go_upto_region 17 with fail
              have hstd := hst.drew
              have hn1 := HRD1.out wr.drew (HV.out.below hstd.bel)
              clear e8
              go_region_with (go_at_call 29; refine hn1.mono ?_; rintro e wn ⟨rfl, hbn⟩; have hstn := hstd.below hbn; have m1 := hstn.b1.gat.getC c hc64; have m2 := hstn.b1.free (2 + c))
              replace hst := hstn.cell (2 + c) (.float .f32 x1) (Gr.putC _ _ _ hc64)
              replace hB8 := ((hB8.drew).below hbn hB8.lt).setOther (a := ⟨q1, 2 + c, none⟩) (.float .f32 x1) hg8q
              replace hX := ((hX.drew).below hbn hX.lt).setOther (a := ⟨q1, 2 + c, none⟩) (.float .f32 x1) hqx
              clear hn1 hstd hstn m1 m2 hbn f1
              generalize wn.setCell ⟨q1, 2 + c, none⟩ (.float .f32 x1) = w9 at *
              go_wp2_with fail
              go_roundw
              case rel => exact ⟨1, by omega, by go_num, hst, hB8, hX⟩
              case measure => simp [intOf]
            · have e8 := (hX.cell 1).trans (show CX[1]? = some (.pointer (some ⟨q1, 66, none⟩)) by rw [HX0.out]; rfl)
              have f1 := (hB8.cell 2).trans HE2.out
              have l_g8 := hB8.lt
              have bi : (0 : Int) ≤ 1 ∧ (1 : Int) < 3 := by decide
              go_upto_region 17 with fail
              have hstd := hst.drew
              have hn1 := HRD2.out wr.drew (HV.out.below hstd.bel)
              clear e8
              go_region_with (go_at_call 29; refine hn1.mono ?_; rintro e wn ⟨rfl, hbn⟩; have hstn := hstd.below hbn; have m1 := hstn.b1.gat.getG c hc64; have m2 := hstn.b1.free (66 + c))
              replace hst := hstn.cell (66 + c) (.float .f32 x2) (Gr.putG _ _ _ hc64)
              replace hB8 := ((hB8.drew).below hbn hB8.lt).setOther (a := ⟨q1, 66 + c, none⟩) (.float .f32 x2) hg8q
              replace hX := ((hX.drew).below hbn hX.lt).setOther (a := ⟨q1, 66 + c, none⟩) (.float .f32 x2) hqx
              clear hn1 hstd hstn m1 m2 hbn f1
              generalize wn.setCell ⟨q1, 66 + c, none⟩ (.float .f32 x2) = w9 at *
              go_wp2_with fail
              go_roundw
              case rel => exact ⟨2, by omega, by go_num, hst, hB8, hX⟩
              case measure => simp [intOf]
            · have e8 := (hX.cell 2).trans (show CX[2]? = some (.pointer (some ⟨q1, 130, none⟩)) by rw [HX0.out]; rfl)
              have f1 := (hB8.cell 3).trans HE3.out
              have l_g8 := hB8.lt
              have bi : (0 : Int) ≤ 2 ∧ (2 : Int) < 3 := by decide
              go_upto_region 17 with fail
              have hstd := hst.drew
              have hn1 := HRD3.out wr.drew (HV.out.below hstd.bel)
              clear e8
              go_region_with (go_at_call 29; refine hn1.mono ?_; rintro e wn ⟨rfl, hbn⟩; have hstn := hstd.below hbn; have m1 := hstn.b1.gat.getH c hc64; have m2 := hstn.b1.free (130 + c))
              replace hst := hstn.cell (130 + c) (.float .f32 x3) (Gr.setH _ _ _ hc64)
              replace hB8 := ((hB8.drew).below hbn hB8.lt).setOther (a := ⟨q1, 130 + c, none⟩) (.float .f32 x3) hg8q
              replace hX := ((hX.drew).below hbn hX.lt).setOther (a := ⟨q1, 130 + c, none⟩) (.float .f32 x3) hqx
              clear hn1 hstd hstn m1 m2 hbn f1
              generalize wn.setCell ⟨q1, 130 + c, none⟩ (.float .f32 x3) = w9 at *
              go_wp2_with fail
              go_roundw
              case rel => exact ⟨3, by omega, by go_num, hst, hB8, hX⟩
              case measure => simp [intOf]
          · obtain rfl : i = 3 := by omega
            replace hst : RG w wr w.heap.size q1 g4 r cur4 cur6 9 3 (gdT (gdI0 l) l ((cellsTo (gdI0 l) 64).take (j + 1))) := by rw [HTK.out, HSN.out]; exact hst
            go_wp2_with fail
            go_roundw
            case rel => exact ⟨j + 1, by omega, by go_num, hst, HRW⟩
            case measure => simp [intOf]; omega
      have hq1 : (v0 == ([102, 105, 120, 101, 100] : List UInt8)) = false := by simpa using hfx
      replace HSN := HSN.out
      rw [show decide (v0 = [102, 105, 120, 101, 100]) = false from decide_eq_false hfx, if_neg (by decide)] at HSN
      replace HSN := Lib.hid HSN
      clear hfx
      go_upto_region 14 with fail
      have HL6 : Hid (q1 < W5.heap.size) := Lib.hid hst.b1.lt
      clear e0 hq1
      obtain ⟨W6, hW6⟩ : ∃ W6, W5 = W6 := ⟨_, rfl⟩
      subst hW6
      go_upto_region 15 with fail
      have hX := Blk.new W5 (ptrsG q1) 123
      replace hst := hst.below (below1 W5 (.cells (ptrsG q1) 123))
      replace hB8 := hB8.alloc (.cells (ptrsG q1) 123)
      change Code.wp _ _ _ _ (W5.alloc (.cells (ptrsG q1) 123))
      have hqx : W5.heap.size ≠ q1 := by have := HL6.out; omega
      generalize W5.alloc (.cells (ptrsG q1) 123) = W7 at *
      generalize W5.heap.size = qx at *
      have hX0 : ptrsG q1 = #[.pointer (some ⟨q1, 2, none⟩), .pointer (some ⟨q1, 66, none⟩), .pointer (some ⟨q1, 130, none⟩)] := rfl
      have HX0 := Lib.hid hX0
      clear hX0
      generalize ptrsG q1 = CX at *
      go_loopw [67] (fun vi wr => ∃ i : Nat, i ≤ 3 ∧ vi = .int .i64 i ∧ RG w wr w.heap.size q1 g4 r cur4 cur6 9 3 (stG G0 c x1 x2 x3 i) ∧ Blk wr g8 C8 9 ∧ Blk wr qx CX 123) (fun vi _ => 3 - (intOf vi).toNat)
      case atStart => exact ⟨0, by omega, rfl, hst, hB8, hX⟩
      case round =>
        clear hst hB8 hX
        obtain ⟨i, hi, rfl, hst, hB8, hX⟩ := hrel
        by_cases hi3 : i < 3
        · obtain rfl | rfl | rfl : i = 0 ∨ i = 1 ∨ i = 2 := by omega
          · have e8 := (hX.cell 0).trans (show CX[0]? = some (.pointer (some ⟨q1, 2, none⟩)) by rw [HX0.out]; rfl)
            have f1 := (hB8.cell 1).trans HE1.out
            have l_g8 := hB8.lt
            have bi : (0 : Int) ≤ 0 ∧ (0 : Int) < 3 := by decide
            go_upto_region 17 with fail
            have hstd := hst.drew
            have hn1 := HRD1.out wr.drew (HV.out.below hstd.bel)
            clear e8
            go_region_with (go_at_call 29; refine hn1.mono ?_; rintro e wn ⟨rfl, hbn⟩; have hstn := hstd.below hbn; have m1 := hstn.b1.gat.getC c hc64; have m2 := hstn.b1.free (2 + c))
            replace hst := hstn.cell (2 + c) (.float .f32 x1) (Gr.putC _ _ _ hc64)
            replace hB8 := ((hB8.drew).below hbn hB8.lt).setOther (a := ⟨q1, 2 + c, none⟩) (.float .f32 x1) hg8q
            replace hX := ((hX.drew).below hbn hX.lt).setOther (a := ⟨q1, 2 + c, none⟩) (.float .f32 x1) hqx
            clear hn1 hstd hstn m1 m2 hbn f1
            generalize wn.setCell ⟨q1, 2 + c, none⟩ (.float .f32 x1) = w9 at *
            go_wp2_with fail
            go_roundw
            case rel => exact ⟨1, by omega, by go_num, hst, hB8, hX⟩
            case measure => simp [intOf]
          · have e8 := (hX.cell 1).trans (show CX[1]? = some (.pointer (some ⟨q1, 66, none⟩)) by rw [HX0.out]; rfl)
            have f1 := (hB8.cell 2).trans HE2.out
            have l_g8 := hB8.lt
            have bi : (0 : Int) ≤ 1 ∧ (1 : Int) < 3 := by decide
            go_upto_region 17 with fail
            have hstd := hst.drew
            have hn1 := HRD2.out wr.drew (HV.out.below hstd.bel)
            clear e8
            go_region_with (go_at_call 29; refine hn1.mono ?_; rintro e wn ⟨rfl, hbn⟩; have hstn := hstd.below hbn; have m1 := hstn.b1.gat.getG c hc64; have m2 := hstn.b1.free (66 + c))
            replace hst := hstn.cell (66 + c) (.float .f32 x2) (Gr.putG _ _ _ hc64)
            replace hB8 := ((hB8.drew).below hbn hB8.lt).setOther (a := ⟨q1, 66 + c, none⟩) (.float .f32 x2) hg8q
            replace hX := ((hX.drew).below hbn hX.lt).setOther (a := ⟨q1, 66 + c, none⟩) (.float .f32 x2) hqx
            clear hn1 hstd hstn m1 m2 hbn f1
            generalize wn.setCell ⟨q1, 66 + c, none⟩ (.float .f32 x2) = w9 at *
            go_wp2_with fail
            go_roundw
            case rel => exact ⟨2, by omega, by go_num, hst, hB8, hX⟩
            case measure => simp [intOf]
          · have e8 := (hX.cell 2).trans (show CX[2]? = some (.pointer (some ⟨q1, 130, none⟩)) by rw [HX0.out]; rfl)
            have f1 := (hB8.cell 3).trans HE3.out
            have l_g8 := hB8.lt
            have bi : (0 : Int) ≤ 2 ∧ (2 : Int) < 3 := by decide
            go_upto_region 17 with fail
            have hstd := hst.drew
            have hn1 := HRD3.out wr.drew (HV.out.below hstd.bel)
            clear e8
            go_region_with (go_at_call 29; refine hn1.mono ?_; rintro e wn ⟨rfl, hbn⟩; have hstn := hstd.below hbn; have m1 := hstn.b1.gat.getH c hc64; have m2 := hstn.b1.free (130 + c))
            replace hst := hstn.cell (130 + c) (.float .f32 x3) (Gr.setH _ _ _ hc64)
            replace hB8 := ((hB8.drew).below hbn hB8.lt).setOther (a := ⟨q1, 130 + c, none⟩) (.float .f32 x3) hg8q
            replace hX := ((hX.drew).below hbn hX.lt).setOther (a := ⟨q1, 130 + c, none⟩) (.float .f32 x3) hqx
            clear hn1 hstd hstn m1 m2 hbn f1
            generalize wn.setCell ⟨q1, 130 + c, none⟩ (.float .f32 x3) = w9 at *
            go_wp2_with fail
            go_roundw
            case rel => exact ⟨3, by omega, by go_num, hst, hB8, hX⟩
            case measure => simp [intOf]
        · obtain rfl : i = 3 := by omega
          replace hst : RG w wr w.heap.size q1 g4 r cur4 cur6 9 3 (gdT (gdI0 l) l ((cellsTo (gdI0 l) 64).take (j + 1))) := by rw [HTK.out, HSN.out]; exact hst
          go_wp2_with fail
          go_roundw
          case rel => exact ⟨j + 1, by omega, by go_num, hst, HRW⟩
          case measure => simp [intOf]; omega
    · obtain rfl : j = N := by omega
      have HRA : Hid (∀ k, k < 64 → isC (gdI0 l) k = true → 1 + (cellsTo (gdI0 l) k).length < (splitL 10 l).length ∧ (wdOf (gdI0 l) l k).length = 4) := Lib.hid fun k hk hc => hrows.out k (by rw [List.take_of_length_le (by rw [HNN.out]; omega)]; exact cellsTo_memV.2 ⟨hk, hc⟩)
      have HEQ : Hid (gdT (gdI0 l) l ((cellsTo (gdI0 l) 64).take j) = gdI l) := Lib.hid (by rw [List.take_of_length_le (by rw [HNN.out]; omega)]; exact gdT_all _ _)
      rw [HEQ.out] at hst
      have hsz := (gdI l).size
      have hon := (gdI l).one
      have hgt := groundText_any (gdI l) (gdI_ok l) (gdI_bare l) (gdI_fits l) wr (HV.out.below hst.bel) (tab_below HT.out hst.bel)
      have HYES : Hid ((if validG (gdI l) then txtGr (gdI l) else []) = l → l ≠ [] → SpecG l) := Lib.hid fun a b => HRB.out HRA.out a b
      have HNOT : Hid (SpecG l → (if validG (gdI l) then txtGr (gdI l) else []) = l ∧ l ≠ []) := Lib.hid HRG.out
      generalize (if validG (gdI l) then txtGr (gdI l) else []) = T at *
      have hs1 : s = ⟨l.toArray⟩ := HST.out.symm
      by_cases hT : T = l
      rotate_left
      · have HNO : Hid (¬ SpecG l) := Lib.hid fun q => hT (HNOT.out q).1
        have hne : ((⟨T.toArray⟩ : ByteArray).toList == s.toList) = false := by rw [hs1, ByteArray.toList_mk, ByteArray.toList_mk]; simpa using hT
        clear hT hs1
        generalize (⟨T.toArray⟩ : ByteArray) = T2 at *
        go_wp2_with (first | (refine wpList_load_blk rfl rfl rfl row66 hst.b1 hsz ?_) | (go_at_call 25; refine hgt.mono ?_; rintro e w9 ⟨rfl, hb9⟩; replace hst := hst.below hb9) | (refine wpList_store_blk (C' := Tryz.zeroCells30) rfl rfl rfl rfl row66 hst.b0 zeroGr.size zc_size zc_one ?_))
        refine bodyPost_row2 rfl rfl row66 (hst.b0.setRow _) zc_size rfl ?_
        exact ⟨zeroGr, 5, by rw [← zeroCells_gr]; rfl, .inr ⟨HNO.out, rfl, rfl⟩, below_setRow hst.bel hst.le.1 _⟩
      subst hT
      rw [← hs1] at hgt
      by_cases hN : T = []
      · have HNO : Hid (¬ SpecG T) := Lib.hid fun q => (HNOT.out q).2 hN
        have hE : s.toList.isEmpty = true := by rw [hs1, ByteArray.toList_mk, hN]; rfl
        clear hN hs1
        go_wp2_with (first | (refine wpList_load_blk rfl rfl rfl row66 hst.b1 hsz ?_) | (go_at_call 25; refine hgt.mono ?_; rintro e w9 ⟨rfl, hb9⟩; replace hst := hst.below hb9) | (refine wpList_store_blk (C' := Tryz.zeroCells30) rfl rfl rfl rfl row66 hst.b0 zeroGr.size zc_size zc_one ?_))
        refine bodyPost_row2 rfl rfl row66 (hst.b0.setRow _) zc_size rfl ?_
        exact ⟨zeroGr, 5, by rw [← zeroCells_gr]; rfl, .inr ⟨HNO.out, rfl, rfl⟩, below_setRow hst.bel hst.le.1 _⟩
      have HG := Lib.hid (HYES.out rfl hN)
      have HSMT := Lib.hid (HSM.out HG.out)
      have hE : s.toList.isEmpty = false := by
        rw [hs1, ByteArray.toList_mk]
        cases T with
        | nil => exact absurd rfl hN
        | cons _ _ => rfl
      clear hN hs1
      go_wp2_with (first | (refine wpList_load_blk rfl rfl rfl row66 hst.b1 hsz ?_) | (go_at_call 25; refine hgt.mono ?_; rintro e w9 ⟨rfl, hb9⟩; replace hst := hst.below hb9) | (refine wpList_store_blk rfl rfl rfl rfl row66 hst.b0 zeroGr.size hsz hon ?_))
      refine bodyPost_row2 rfl rfl row66 (hst.b0.setRow _) hsz rfl ?_
      exact ⟨_, 0, rfl, .inl ⟨HG.out, HSMT.out, rfl⟩, below_setRow hst.bel hst.le.1 _⟩
end Go.Proofs.YtdnnjahdcabdmaaGreatDoor
