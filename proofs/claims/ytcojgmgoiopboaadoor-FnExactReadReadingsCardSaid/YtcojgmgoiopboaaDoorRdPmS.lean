/- ReadPermits, in the reference: the walk. -/
import Derived.Test.YtcojgmgoiopboaaDoorRdPmP
import Derived.Test.YtcojgmgoiopboaaDoorScaled
namespace Go.Proofs.YtcojgmgoiopboaaDoor
open Go.ChangeShapes Go.WideShapes Go.ChangeAt Go.RowKit
set_option linter.unusedVariables false
set_option linter.unusedSimpArgs false
attribute [local irreducible] Calls

theorem splitL_len_le (c : UInt8) : ∀ (l : List UInt8), ∀ a ∈ splitL c l, a.length ≤ l.length
  | [], a, h => by have h : a = [] := by simpa [splitL] using h
                   rw [h]; simp
  | x :: l, a, h => by
    have ih := splitL_len_le c l
    rw [splitL] at h
    split at h
    · rcases List.mem_cons.1 h with rfl | h
      · simp
      · have := ih a h; simp; omega
    · cases hs : splitL c l with
      | nil => exact absurd hs (splitL_ne c l)
      | cons b t =>
        rw [hs] at h ih
        rcases List.mem_cons.1 h with rfl | h
        · have := ih b List.mem_cons_self; simp; omega
        · have := ih a (List.mem_cons_of_mem _ h); simp; omega
theorem splitL_get_le (c : UInt8) (l : List UInt8) (i : Nat) : ((splitL c l).getD i []).length ≤ l.length := by
  rw [List.getD_eq_getElem?_getD]
  by_cases h : i < (splitL c l).length
  · rw [List.getElem?_eq_getElem h]; exact splitL_len_le c l _ (List.getElem_mem h)
  · rw [List.getElem?_eq_none (by omega)]; simp
theorem size_of (L : List UInt8) : (⟨L.toArray⟩ : ByteArray).size = L.length := by simp [ByteArray.size]
theorem wrap8 (n : Int) (h : 0 ≤ n ∧ n ≤ 127) : IntKind.i8.wrap n = n := by
  simp [IntKind.wrap, IntKind.bits, IntKind.signed]
  omega
theorem wrap16 (n : Int) (h : 0 ≤ n ∧ n ≤ 32767) : IntKind.i16.wrap n = n := by
  simp [IntKind.wrap, IntKind.bits, IntKind.signed]
  omega
theorem plain_rd {l : List UInt8} {n : Nat} (h : ∀ i, i < n → okW (wordsAt l i)) : plainPs n (rdP l) = decide (n ≤ 6) ∧ ∀ i, i < n → (rdP l i).ok := by
  have hb : ∀ i, i < n → (0 ≤ (rdP l i).own ∧ (rdP l i).own ≤ 7) ∧ (0 ≤ (rdP l i).cel ∧ (rdP l i).cel ≤ 63) ∧ (0 ≤ (rdP l i).rat ∧ (rdP l i).rat ≤ 400) := fun i hi => (okW_row (l := (splitL 10 l).getD i []) (h i hi)).2
  refine ⟨?_, fun i hi => by have := hb i hi; unfold Pm.ok; omega⟩
  unfold plainPs
  rw [anyTo_false.2 fun i hi => by
    have := hb i hi
    unfold badAny badOwner badCell badRate
    simp; omega]
  simp
theorem strs_getD {L : List (List UInt8)} {i : Nat} (h : i < L.length) : (strs L)[i]? = some (.string ⟨(L.getD i []).toArray⟩) := by
  apply strs_get; rw [List.getD_eq_getElem?_getD, List.getElem?_eq_getElem h]; rfl
set_option maxRecDepth 100000 in
set_option maxHeartbeats 4000000 in
theorem readPermitsS_any (s : ByteArray) (hs : s.size ≤ 1048576) (w : World) :
    Calls Tryd.prog 11 #[.string s] w fun e w' => ∃ v, e = .returned (.tuple #[v, .int .i64 (rdC s.data.toList)]) ∧ ∃ r, w.heap.size ≤ r ∧ Res w' r v (rdM s.data.toList) (rdP s.data.toList) ∧ Below w.heap.size w w' := by
  have hsp := l01Split_any s 10 hs w
  have hsp : Calls Tryd.prog 28 #[.string s, .int .u8 10] w fun e w' => ∃ v g, e = .returned v ∧ Own w' g 9 1 v (splitL 10 s.data.toList).length (strs (splitL 10 s.data.toList)) ∧ w.heap.size ≤ g ∧ Below w.heap.size w w' := hsp
  have hll : s.data.toList.length = s.size := rfl
  generalize s.data.toList = l at *
  have hpos := List.length_pos_iff.2 (splitL_ne 10 l)
  have hlen := splitL_length 10 l
  obtain ⟨n, hn⟩ : ∃ n, rdN l = n := ⟨_, rfl⟩
  have hN : (splitL 10 l).length = n + 1 := by rw [← hn]; unfold rdN; omega
  have hn20 : n ≤ 1048576 := by omega
  have hG := goodPm_iff l
  rw [hn] at hG
  have hlast : (strs (splitL 10 l))[n]? = some (.string ⟨((splitL 10 l).getD n [0]).toArray⟩) := by
    apply strs_get; rw [List.getD_eq_getElem?_getD, List.getElem?_eq_getElem (by omega)]; rfl
  have hline := fun i (h : i < n) => strs_getD (L := splitL 10 l) (i := i) (by omega)
  have hll2 := fun i => splitL_get_le 10 l i
  have HLL := Lib.hid hll2
  have HLI := Lib.hid hline
  have HG := Lib.hid hG
  rw [hN] at hsp
  have hn0 := hn
  have HN0 := Lib.hid hn
  clear hpos hlen hll2 hline hG hn hn0
  go_enter Tryd.func11, Tryd.ntmps11
  go_upto_region 2 with (go_at_call 28; refine hsp.mono ?_; rintro e w1 ⟨v4, g4, rfl, hO4, hg4, hb4⟩)
  obtain ⟨cap4, rfl, hc41, hc42⟩ := hO4.form
  unfold maxLen at hc42
  go_upto_region 3 with fail
  have hO : Own (w1.alloc (.cells #[] 42)) w1.heap.size 42 3 (.slice (some ⟨w1.heap.size, 0, none⟩) 0 0) 0 (pls 0 (rdP l)) := by rw [pls_zero]; exact own_blk (Blk.new _ _ _) rfl (by decide) rfl
  have l4 := hO4.lt
  have hO4 := hO4.alloc (.cells #[] 42)
  have hbel := hb4.alloc hb4.size (.cells #[] 42)
  have hz := hb4.size
  have hB4 : w.heap.size ≤ w1.heap.size := hz
  have hqW : w1.heap.size ≤ (w1.alloc (.cells #[] 42)).heap.size := by simp
  generalize w1.alloc (.cells #[] 42) = W at *
  generalize w1.heap.size = q1 at *
  have HO4 := Lib.hid hO4
  have cl := (hO4.cell n (by omega)).trans hlast
  clear hO4 hlast hb4 hsp
  have bn : (0 : Int) ≤ n := by omega
  have bn2 : (n : Int) < (n : Int) + 1 := by omega
  have hstart : (splitL 10 l).getD n [0] = [] ∨ ((splitL 10 l).getD n [0] ≠ [] ∧ ¬ goodPm l) := by
    by_cases h : (splitL 10 l).getD n [0] = []
    · exact .inl h
    · exact .inr ⟨h, fun q => h (HG.out.1 q).1⟩
  have hok : ∃ b : Bool, (b = true ∨ (b = false ∧ ¬ goodPm l)) ∧ ((b = true) → (splitL 10 l).getD n [0] = []) ∧ (⟨((splitL 10 l).getD n [0]).toArray⟩ : ByteArray).toList.isEmpty = b := by
    refine ⟨decide ((splitL 10 l).getD n [0] = []), ?_, fun h => of_decide_eq_true h, ?_⟩
    · rcases hstart with h | ⟨h, h2⟩
      · exact .inl (decide_eq_true h)
      · exact .inr ⟨decide_eq_false h, h2⟩
    · rw [ByteArray.toList_mk]
      generalize (splitL 10 l).getD n [0] = T
      cases T <;> rfl
  obtain ⟨b0, hb0, hb1, hbin⟩ := hok
  have HB0 := Lib.hid (And.intro hb0 hb1)
  generalize ((splitL 10 l).getD n [0]).toArray = T at *
  clear hstart hb0 hb1
  go_upto_region 4 with fail
  clear cl
  go_upto_region 5 with fail
  go_loopw [5, 6, 7] (fun vl vok vi wr => ∃ (k : Nat), vi = .int .i64 k ∧ k ≤ n ∧ q1 ≤ wr.heap.size ∧ Below q1 W wr ∧ Below w.heap.size w wr ∧ ((vok = .bool true ∧ Hid ((∀ j, j < k → okW (wordsAt l j)) ∧ (splitL 10 l).getD n [0] = []) ∧ ∃ g, Own wr g 42 3 vl k (pls k (rdP l)) ∧ q1 ≤ g) ∨ (vok = .bool false ∧ Hid (¬ goodPm l)))) (fun _ _ vi _ => n + 1 - (intOf vi).toNat)
  case atStart =>
    refine ⟨0, rfl, by omega, hqW, Below.refl _ _, hbel, ?_⟩
    rcases HB0.out.1 with h | ⟨h, h2⟩
    · exact .inl ⟨by rw [h], Lib.hid ⟨fun j hj => absurd hj (by omega), HB0.out.2 h⟩, _, hO, Nat.le_refl _⟩
    · exact .inr ⟨by rw [h], Lib.hid h2⟩
  case round =>
    obtain ⟨k, rfl, hk, hq, hbW, hbw, hcase⟩ := hrel
    have bk : (0 : Int) ≤ k := by omega
    have hO4 := HO4.out.below hbW l4
    rcases hcase with ⟨rfl, hok, g, hO, hg⟩ | ⟨rfl, hbad⟩
    · by_cases hlt : k < n
      · have hline := HLI.out k hlt
        have cl := (hO4.cell k (by omega)).trans hline
        have lO4 := hO4.lt
        have bl : (k : Int) + 1 < (n : Int) + 1 := by omega
        have bl2 : (k : Int) < (n : Int) + 1 := by omega
        have hsl := HLL.out k
        have hkn : k ≤ 1048576 := by omega
        have hwl : wordsAt l k = splitL 32 ((splitL 10 l).getD k []) := rfl
        have hS2 := fun w' => l01Split_any ⟨((splitL 10 l).getD k []).toArray⟩ 32 (by rw [size_of]; omega) w'
        rw [show (⟨((splitL 10 l).getD k []).toArray⟩ : ByteArray).data.toList = (splitL 10 l).getD k [] by simp, ← hwl] at hS2
        have hS2 : ∀ w', Calls Tryd.prog 28 #[.string ⟨((splitL 10 l).getD k []).toArray⟩, .int .u8 32] w' fun e w'' => ∃ v g, e = .returned v ∧ Own w'' g 9 1 v (wordsAt l k).length (strs (wordsAt l k)) ∧ w'.heap.size ≤ g ∧ Below w'.heap.size w' w'' := hS2
        have hwle : ∀ i, ((wordsAt l k).getD i []).length ≤ 1048576 := fun i => by
          have := splitL_get_le 32 ((splitL 10 l).getD k []) i
          rw [hwl]; omega
        have HWL := Lib.hid hwle
        have hpl := pls_succ k (rdP l)
        have hrp : rdP l k = pmW (wordsAt l k) := rfl
        have HGK : Hid (¬ okW (wordsAt l k) → ¬ goodPm l) := Lib.hid fun h q => h ((HG.out.1 q).2.1 k hlt)
        have HRP := Lib.hid (And.intro hpl hrp)
        have hws : ∃ ws, wordsAt l k = ws := ⟨_, rfl⟩
        obtain ⟨ws, hws⟩ := hws
        rw [hws] at hS2 HWL HGK HRP
        have HWS := Lib.hid hws
        have hwlen : (wordsAt l k).length ≤ 1048577 := by
          have := splitL_length 32 ((splitL 10 l).getD k [])
          show (splitL 32 ((splitL 10 l).getD k [])).length ≤ _
          omega
        clear hwl hsl hline hwle hpl hrp
        generalize ((splitL 10 l).getD k []).toArray = LT at *
        rw [hws] at hwlen
        clear hws
        go_upto_region 8 with (go_at_call 28; refine (hS2 _).mono ?_; rintro e w2 ⟨v8, g8, rfl, hO8, hg8, hb8⟩)
        have hbW := hbW.trans (hb8.mono hq)
        have hbw := hbw.trans (hb8.mono hbw.size)
        have hO := hO.below hb8 hO.lt
        have hq : q1 ≤ w2.heap.size := Nat.le_trans hq hb8.size
        clear hb8 hS2 hO4 cl
        obtain ⟨cap8, rfl, hc81, hc82⟩ := hO8.form
        by_cases h3 : ws.length = 3
        · have c0 := (hO8.cell 0 (by omega)).trans (strs_getD (by omega))
          have c1 := (hO8.cell 1 (by omega)).trans (strs_getD (by omega))
          have c2 := (hO8.cell 2 (by omega)).trans (strs_getD (by omega))
          have n0 := fun w' => l01Number_any ⟨(ws.getD 0 []).toArray⟩ (by rw [size_of]; exact HWL.out 0) w'
          have n1 := fun w' => l01Number_any ⟨(ws.getD 1 []).toArray⟩ (by rw [size_of]; exact HWL.out 1) w'
          have n2 := fun w' => l01Number_any ⟨(ws.getD 2 []).toArray⟩ (by rw [size_of]; exact HWL.out 2) w'
          rw [show (⟨(ws.getD 0 []).toArray⟩ : ByteArray).data.toList = ws.getD 0 [] by simp] at n0
          rw [show (⟨(ws.getD 1 []).toArray⟩ : ByteArray).data.toList = ws.getD 1 [] by simp] at n1
          rw [show (⟨(ws.getD 2 []).toArray⟩ : ByteArray).data.toList = ws.getD 2 [] by simp] at n2
          have HOK : Hid (okW ws ↔ okB ws = true) := Lib.hid ⟨fun q => q.2, fun q => ⟨h3, q⟩⟩
          have hokb : okB ws = ((decN (ws.getD 0 [])).isSome && (decN (ws.getD 1 [])).isSome && (decN (ws.getD 2 [])).isSome && decide ((decN (ws.getD 0 [])).getD 0 ≤ 7) && decide ((decN (ws.getD 1 [])).getD 0 ≤ 63) && decide ((decN (ws.getD 2 [])).getD 0 ≤ 400)) := rfl
          have hpw : (pmW ws).cells = #[.int .i8 (((decN (ws.getD 0 [])).getD 0 : Nat) : Int), .int .i8 (((decN (ws.getD 1 [])).getD 0 : Nat) : Int), .int .i16 (((decN (ws.getD 2 [])).getD 0 : Nat) : Int)] := Pm.cells_eq _
          have HPW := Lib.hid hpw
          have b3 : ((ws.length : Nat) : Int) = 3 := by omega
          rw [h3] at hO8
          clear hpw b3 hO8 hwlen
          rw [h3] at hc81 ⊢
          generalize (decN (ws.getD 0 [])).getD 0 = u0 at *
          generalize (decN (ws.getD 1 [])).getD 0 = u1 at *
          generalize (decN (ws.getD 2 [])).getD 0 = u2 at *
          generalize (decN (ws.getD 0 [])).isSome = d0 at *
          generalize (decN (ws.getD 1 [])).isSome = d1 at *
          generalize (decN (ws.getD 2 [])).isSome = d2 at *
          generalize (ws.getD 0 []).toArray = s0 at *
          generalize (ws.getD 1 []).toArray = s1 at *
          generalize (ws.getD 2 []).toArray = s2 at *
          go_upto_region 13 with (first | (go_at_call 29; refine (n0 _).mono ?_; rintro e w' ⟨rfl, hw⟩; rw [hw]; clear hw w' n0) | (go_at_call 29; refine (n1 _).mono ?_; rintro e w' ⟨rfl, hw⟩; rw [hw]; clear hw w' n1) | (go_at_call 29; refine (n2 _).mono ?_; rintro e w' ⟨rfl, hw⟩; rw [hw]; clear hw w' n2))
          have hcases : (d0 = false) ∨ (d0 = true ∧ d1 = false) ∨ (d0 = true ∧ d1 = true ∧ d2 = false) ∨ (d0 = true ∧ d1 = true ∧ d2 = true ∧ ¬ (u0 : Int) ≤ 7) ∨ (d0 = true ∧ d1 = true ∧ d2 = true ∧ (u0 : Int) ≤ 7 ∧ ¬ (u1 : Int) ≤ 63) ∨ (d0 = true ∧ d1 = true ∧ d2 = true ∧ (u0 : Int) ≤ 7 ∧ (u1 : Int) ≤ 63 ∧ ¬ (u2 : Int) ≤ 400) ∨ (d0 = true ∧ d1 = true ∧ d2 = true ∧ (u0 : Int) ≤ 7 ∧ (u1 : Int) ≤ 63 ∧ (u2 : Int) ≤ 400) := by
            cases d0 <;> cases d1 <;> cases d2 <;> simp <;> omega
          clear c0 c1 c2
          rcases hcases with rfl | ⟨rfl, rfl⟩ | ⟨rfl, rfl, rfl⟩ | ⟨rfl, rfl, rfl, i0⟩ | ⟨rfl, rfl, rfl, i0, i1⟩ | ⟨rfl, rfl, rfl, i0, i1, i2⟩ | ⟨rfl, rfl, rfl, i0, i1, i2⟩
          rotate_left 6
          · have hgood : okB ws = true := by rw [hokb]; simp; omega
            have HOKS : Hid ((∀ j, j < k + 1 → okW (wordsAt l j)) ∧ (splitL 10 l).getD n [0] = []) := Lib.hid ⟨fun j hj => by
              by_cases hjk : j < k
              · exact hok.out.1 j hjk
              · obtain rfl : j = k := by omega
                rw [HWS.out]; exact HOK.out.2 hgood, hok.out.2⟩
            have w0 : IntKind.i8.wrap (u0 : Int) = u0 := wrap8 _ (by omega)
            have w1' : IntKind.i8.wrap (u1 : Int) = u1 := wrap8 _ (by omega)
            have w2' : IntKind.i16.wrap (u2 : Int) = u2 := wrap16 _ (by omega)
            clear hokb hgood
            go_wp2_with (at_builtin; refine wpList_app elPm rfl rfl rfl rfl (by decide) (hO.alloc _) (Blk.new _ _ _) rfl ?_ ?_ ?_ ?_; (· intro u hu; simp at hu; rcases hu with rfl | rfl | rfl <;> rfl); (· unfold maxLen; omega); (· omega); intro v1 w3 g1 hown hgr hg1)
            have hb3 := (hbw.alloc hbw.size (.cells #[.int .i8 u0, .int .i8 u1, .int .i16 u2] 42)).grown hgr (by have := hbw.size; simp; omega) (fun q hq => by injection hq with hq; omega)
            have hb3W := (hbW.alloc hq (.cells #[.int .i8 u0, .int .i8 u1, .int .i16 u2] 42)).grown hgr (by simp; omega) (fun q hq => by injection hq with hq; omega)
            have hsz3 := hgr.size
            rw [World.size_alloc] at hsz3
            go_roundw
            case rel =>
              refine ⟨k + 1, by go_num, by omega, ?_, hb3W, hb3, .inl ⟨rfl, HOKS, g1, ?_, ?_⟩⟩
              · omega
              · rw [HRP.out.1, HRP.out.2, HPW.out]; exact hown
              · simp at hg1; omega
            case measure => simp [intOf]; omega
          all_goals (
            have hbadB : okB ws = false := by
              rw [hokb]
              first | rfl | (simp; omega)
            have HBAD : Hid (¬ goodPm l) := Lib.hid (HGK.out fun q => by
              have q2 := HOK.out.1 q
              rw [hbadB] at q2
              cases q2)
            clear hokb hbadB
            go_wp2_with fail
            go_roundw
            case rel => exact ⟨k + 1, by go_num, by omega, hq, hbW, hbw, .inr ⟨rfl, HBAD⟩⟩
            case measure => simp [intOf]; omega)
        · have b3 : ¬ ((ws.length : Nat) : Int) = 3 := by omega
          have HBD := Lib.hid (rd_bad (HGK.out fun q => h3 q.1))
          clear h3
          go_wp2_with fail
          go_ret2
          exact ⟨_, congrArg (fun x => Ending.returned (.tuple #[_, .int .i64 x])) HBD.out.1.symm, _, Nat.le_refl _, by rw [HBD.out.2]; exact .inl ⟨rfl, _, _, rfl, by decide⟩, hbw.alloc hbw.size _⟩
      · obtain rfl : k = n := by omega
        obtain ⟨hall, hlast⟩ := hok.out
        obtain ⟨hpl, hPok⟩ := plain_rd hall
        have hP := l07Plain_any k (rdP l) hPok u5 wr hO.psl
        rw [hpl] at hP
        by_cases h6 : k ≤ 6
        · have hgd : goodPm l := HG.out.2 ⟨hlast, hall, h6⟩
          have HGD := Lib.hid (rd_good hgd)
          rw [decide_eq_true h6] at hP
          have ik : ¬ (k : Int) + 1 < (k : Int) + 1 := by omega
          obtain ⟨cp, rfl, hcp1, hcp2⟩ := hO.form
          clear hall hlast hpl hPok hgd hok
          go_wp2_with (go_at_call 20; refine hP.mono ?_; rintro e w2 ⟨rfl, hb2⟩)
          go_ret2
          exact ⟨_, congrArg (fun x => Ending.returned (.tuple #[_, .int .i64 x])) HGD.out.1.symm, _, Nat.le_trans hB4 hg, by rw [HGD.out.2, HN0.out]; exact .inr (hO.below hb2 hO.lt), hbw.trans (hb2.mono hbw.size)⟩
        · have hgd : ¬ goodPm l := fun q => h6 (HG.out.1 q).2.2
          have HBD := Lib.hid (rd_bad hgd)
          rw [decide_eq_false h6] at hP
          have ik : ¬ (k : Int) + 1 < (k : Int) + 1 := by omega
          obtain ⟨cp, rfl, hcp1, hcp2⟩ := hO.form
          clear hall hlast hpl hPok hgd hok
          go_wp2_with (go_at_call 20; refine hP.mono ?_; rintro e w2 ⟨rfl, hb2⟩)
          go_ret2
          have hb3 := hbw.trans (hb2.mono hbw.size)
          exact ⟨_, congrArg (fun x => Ending.returned (.tuple #[_, .int .i64 x])) HBD.out.1.symm, _, Nat.le_refl _, by rw [HBD.out.2]; exact .inl ⟨rfl, _, _, rfl, by decide⟩, hb3.alloc hb3.size _⟩
    · have hbd := rd_bad hbad.out
      have HBD := Lib.hid hbd
      clear hbd hbad
      by_cases hlt : (k : Int) + 1 < (n : Int) + 1
      · go_wp2_with fail
        go_ret2
        exact ⟨_, congrArg (fun x => Ending.returned (.tuple #[_, .int .i64 x])) HBD.out.1.symm, _, Nat.le_refl _, by rw [HBD.out.2]; exact .inl ⟨rfl, _, _, rfl, by decide⟩, hbw.alloc hbw.size _⟩
      · go_wp2_with fail
        go_ret2
        exact ⟨_, congrArg (fun x => Ending.returned (.tuple #[_, .int .i64 x])) HBD.out.1.symm, _, Nat.le_refl _, by rw [HBD.out.2]; exact .inl ⟨rfl, _, _, rfl, by decide⟩, hbw.alloc hbw.size _⟩
end Go.Proofs.YtcojgmgoiopboaaDoor
