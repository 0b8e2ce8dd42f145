/- ReadReadings, in the reference: the walk. -/
import Derived.Test.YtcojgmgoiopboaaDoorRdRgP
import Derived.Test.YtcojgmgoiopboaaDoorRdPmS
namespace Go.Proofs.YtcojgmgoiopboaaDoor
open Go.ChangeShapes Go.WideShapes Go.ChangeAt Go.RowKit
set_option linter.unusedVariables false
set_option linter.unusedSimpArgs false
attribute [local irreducible] Calls

theorem wrap16s (n : Int) (h : -32768 ≤ n ∧ n ≤ 32767) : IntKind.i16.wrap n = n := by
  simp [IntKind.wrap, IntKind.bits, IntKind.signed]
  omega
theorem decN_bd (l : List UInt8) : (decN l).getD 0 < 1000000000 := by
  cases h : decN l with
  | none => simp
  | some u => simpa using (decN_some h).2
set_option maxRecDepth 100000 in
set_option maxHeartbeats 4000000 in
theorem l03ReadSigned_any (s : ByteArray) (hs : s.size ≤ 1048576) (w : World) :
    Calls Tryd.prog 32 #[.string s] w fun e w' => e = .returned (.tuple #[.int .i64 (sgV s.data.toList), .bool (sgB s.data.toList)]) ∧ w' = w := by
  have hidx : ∀ (h : 0 < s.size) w', (Instr.index 9 (.string s) (.int .i64 0)).run Tryd.prog w' = .ok (.int .u8 ((s.data.toList.getD 0 0).toNat : Int)) w' := fun h w' => by
    rw [run_index_string w' 9 _ .i64 _ Tryd.underlying9, dif_pos ⟨by omega, by omega⟩]
    simp only [Int.toNat_zero]
    rw [List.getD_eq_getElem?_getD, List.getElem?_eq_getElem (show 0 < s.data.toList.length from h)]
    rfl
  have hn1 := fun w' => l01Number_any s hs w'
  have hl : s.data.toList.length = s.size := rfl
  have hsl : ∀ (h : 0 < s.size) W, (Instr.slice 9 (.string s) (some (.int .i64 1)) none none).run Tryd.prog W = .ok (.string (s.extract 1 s.size)) W := fun h W => by
    rw [run_slice_string_from_if W 9 s .i64 _ Tryd.underlying9, if_pos ⟨by omega, by omega⟩]
    rfl
  have hex : s.extract 1 s.size = ⟨(s.data.toList.tail).toArray⟩ := by
    rw [extract_eq]
    have : (s.data.toList.drop 1).take (s.size - 1) = s.data.toList.tail := by
      rw [List.take_of_length_le (by simp [hl]), List.drop_one]
    rw [this]
  have hn2 := fun w' => l01Number_any ⟨(s.data.toList.tail).toArray⟩ (by rw [size_of]; simp; omega) w'
  rw [show (⟨(s.data.toList.tail).toArray⟩ : ByteArray).data.toList = s.data.toList.tail by simp] at hn2
  rw [hex] at hsl
  have hem : s.toList.isEmpty = s.data.toList.isEmpty := by rw [ByteArray.toList_eq]
  clear hex
  generalize s.data.toList = l at *
  cases l with
  | nil =>
    have hE : s.toList.isEmpty = true := hem
    have hV : sgV [] = 0 ∧ sgB [] = false := ⟨by unfold sgV decN; simp, by unfold sgB decN; simp⟩
    have hD : decN [] = none := by unfold decN; simp
    rw [hV.1, hV.2]
    rw [hD] at hn1
    clear hem hV hD hn2 hsl hidx
    go_enter Tryd.func32, Tryd.ntmps32
    go_wp2_with (go_at_call 29; refine (hn1 _).mono ?_; rintro e w' ⟨rfl, hw⟩; rw [hw]; clear hw w')
    go_ret2
    exact ⟨rfl, rfl⟩
  | cons c r =>
    have hE : s.toList.isEmpty = false := hem
    have hp : 0 < s.size := by simp at hl; omega
    have hx := hidx hp
    have hs1 := hsl hp
    clear hidx hsl
    simp only [List.getD_cons_zero, List.tail_cons] at hx hs1 hn2
    by_cases hc : c = 45
    · have ic : ((c.toNat : Nat) : Int) = 45 := by rw [hc]; rfl
      have hb := decN_bd r
      have hV : sgV (c :: r) = -(((decN r).getD 0 : Nat) : Int) ∧ sgB (c :: r) = ((decN r).isSome && decide (0 < (decN r).getD 0)) := by
        subst hc; exact ⟨by unfold sgV; simp, by unfold sgB; rw [if_pos (show (45 :: r : List UInt8).head? = some 45 from rfl)]; rfl⟩
      rw [hV.1, hV.2]
      clear hV hem hl hn1 hc
      generalize (decN r).getD 0 = u at *
      generalize (decN r).isSome = b at *
      have wn : IntKind.i64.wrap (-(u : Int)) = -(u : Int) := IntWalk.i64_in _ (by omega)
      have hd : decide (0 < u) = decide ((0 : Int) < u) := by simp
      rw [hd]
      clear hd
      cases b <;> by_cases h0 : (0 : Int) < u
      all_goals (
        go_enter Tryd.func32, Tryd.ntmps32
        go_wp2_with (go_at_call 29; refine (hn2 _).mono ?_; rintro e w' ⟨rfl, hw⟩; rw [hw]; clear hw w')
        go_ret2
        exact ⟨by first | rfl | simp [h0], rfl⟩)
    · have ic : ¬ ((c.toNat : Nat) : Int) = 45 := fun q => hc (UInt8.toNat_inj.1 (by have : (45 : UInt8).toNat = 45 := rfl; omega))
      have hV : sgV (c :: r) = (((decN (c :: r)).getD 0 : Nat) : Int) ∧ sgB (c :: r) = (decN (c :: r)).isSome := by
        refine ⟨?_, ?_⟩
        · unfold sgV; rw [if_neg (by simpa using hc)]
        · unfold sgB; rw [if_neg (by simpa using hc)]
      rw [hV.1, hV.2]
      clear hV hem hl hn2 hc hs1
      generalize decN (c :: r) = D at *
      go_enter Tryd.func32, Tryd.ntmps32
      go_wp2_with (go_at_call 29; refine (hn1 _).mono ?_; rintro e w' ⟨rfl, hw⟩; rw [hw]; clear hw w')
      go_ret2
      exact ⟨rfl, rfl⟩
theorem okT_prev2 {P : Nat → Rg} : ∀ {k : Nat}, okT P k = true → prevT P k ≤ 100000
  | 0, _ => by show (0 : Int) ≤ 100000; omega
  | k + 1, h => (okT_in h k (by omega)).2
set_option maxRecDepth 100000 in
set_option maxHeartbeats 400000 in
theorem l04Ok_any (n : Nat) (P : Nat → Rg) (v : Value) (w : World) (hv : RSl w v n P) :
    Calls Tryd.prog 34 #[v] w fun e w' => e = .returned (.bool (decide (n ≤ 40) && okT P n)) ∧ w' = w := by
  obtain ⟨a, c, rfl, hc1, hc2, hcell⟩ := hv
  unfold maxLen at hc2
  have HC := Lib.hid hcell
  clear hcell
  by_cases h40 : n ≤ 40
  · have i40 : ¬ (40 : Int) < n := by omega
    have HD : Hid ((decide (n ≤ 40) && okT P n) = okT P n) := Lib.hid (by rw [decide_eq_true h40]; rfl)
    clear h40
    go_enter Tryd.func34, Tryd.ntmps34
    go_upto_region 5 with fail
    go_loopw [3, 4] (fun vp vi wr => ∃ k : Nat, k ≤ n ∧ vi = .int .i64 k ∧ vp = .int .i64 (prevT P k) ∧ Hid (okT P k = true) ∧ wr = w) (fun _ vi _ => n - (intOf vi).toNat)
    case atStart => exact ⟨0, by omega, rfl, rfl, Lib.hid rfl, rfl⟩
    case round =>
      obtain ⟨k, hk, rfl, rfl, hok, rfl⟩ := hrel
      have bk : (0 : Int) ≤ k := by omega
      by_cases hlt : k < n
      · have bl : (k : Int) < n := by omega
        obtain ⟨b, o, rfl, hb, hcell⟩ := HC.out.resolve_left (by omega)
        have e0 := (hcell k 0 hlt (by omega)).trans (P k).get0
        have e0 : wr.cell? ⟨b, o + k * 2, none⟩ = some (.int .i64 (P k).tim) := e0
        clear hcell
        have q1 := okT_prev hok.out
        have q2 := okT_prev2 hok.out
        have wp : IntKind.i64.wrap (prevT P k + 1) = prevT P k + 1 := IntWalk.i64_in _ (by omega)
        have hin := fun w' => l00In_any (P k).tim (prevT P k + 1) 100000 w'
        have hpn : prevT P (k + 1) = (P k).tim := rfl
        have hst : okT P (k + 1) = (okT P k && (decide (prevT P k < (P k).tim) && decide ((P k).tim ≤ 100000))) := rfl
        have hde : decide (prevT P k < (P k).tim) = decide (prevT P k + 1 ≤ (P k).tim) := decide_eq_decide.2 (by omega)
        rw [hok.out, Bool.true_and, hde] at hst
        have HPN := Lib.hid hpn
        clear hde hpn q1 q2
        cases hd : (decide (prevT P k + 1 ≤ (P k).tim) && decide ((P k).tim ≤ 100000)) <;> rw [hd] at hin hst
        · have HF : Hid (okT P n = false) := Lib.hid (okT_false hst (by omega))
          clear hst hd
          go_wp2_with (go_at_call 33; refine (hin _).mono ?_; rintro e w' ⟨rfl, hw⟩; rw [hw]; clear hw w')
          go_ret
          exact ⟨bool_eq (by rw [HD.out, HF.out]), rfl⟩
        · have HF : Hid (okT P (k + 1) = true) := Lib.hid hst
          clear hst hd
          go_wp2_with (go_at_call 33; refine (hin _).mono ?_; rintro e w' ⟨rfl, hw⟩; rw [hw]; clear hw w')
          go_roundw
          case rel => exact ⟨k + 1, by omega, by go_num, by rw [HPN.out], HF, by first | rfl | trivial⟩
          case measure => simp [intOf]; omega
      · obtain rfl : k = n := by omega
        have HF : Hid (okT P k = true) := hok
        go_wp2_with fail
        go_ret
        exact ⟨bool_eq (by rw [HD.out, HF.out]), rfl⟩
  · have i40 : (40 : Int) < n := by omega
    have HD : Hid ((decide (n ≤ 40) && okT P n) = false) := Lib.hid (by rw [decide_eq_false h40]; rfl)
    clear h40
    go_enter Tryd.func34, Tryd.ntmps34
    go_wp2_with fail
    go_ret
    exact ⟨bool_eq HD.out.symm, rfl⟩
set_option maxRecDepth 100000 in
set_option maxHeartbeats 4000000 in
theorem readReadingsS_any (s : ByteArray) (hs : s.size ≤ 1048576) (w : World) :
    Calls Tryd.prog 15 #[.string s] w fun e w' => ∃ v, e = .returned (.tuple #[v, .int .i64 (rgC s.data.toList)]) ∧ ∃ r, w.heap.size ≤ r ∧ ResR w' r v (rgM s.data.toList) (rdG s.data.toList) ∧ Below w.heap.size w w' := by
  have hsp := l01Split_any s 10 hs w
  have hsp : Calls Tryd.prog 28 #[.string s, .int .u8 10] w fun e w' => ∃ v g, e = .returned v ∧ Own w' g 9 1 v (splitL 10 s.data.toList).length (strs (splitL 10 s.data.toList)) ∧ w.heap.size ≤ g ∧ Below w.heap.size w w' := hsp
  have hll : s.data.toList.length = s.size := rfl
  generalize s.data.toList = l at *
  have hpos := List.length_pos_iff.2 (splitL_ne 10 l)
  have hlen := splitL_length 10 l
  obtain ⟨n, hn⟩ : ∃ n, rdN l = n := ⟨_, rfl⟩
  have hN : (splitL 10 l).length = n + 1 := by rw [← hn]; unfold rdN; omega
  have hn20 : n ≤ 1048576 := by omega
  have hG := goodRg_iff l
  rw [hn] at hG
  have hlast : (strs (splitL 10 l))[n]? = some (.string ⟨((splitL 10 l).getD n [0]).toArray⟩) := by
    apply strs_get; rw [List.getD_eq_getElem?_getD, List.getElem?_eq_getElem (by omega)]; rfl
  have hline := fun i (h : i < n) => strs_getD (L := splitL 10 l) (i := i) (by omega)
  have hll2 := fun i => splitL_get_le 10 l i
  have HLL := Lib.hid hll2
  have HLI := Lib.hid hline
  have HG := Lib.hid hG
  rw [hN] at hsp
  have HN0 := Lib.hid hn
  clear hpos hlen hll2 hline hG hn
  go_enter Tryd.func15, Tryd.ntmps15
  go_upto_region 2 with (go_at_call 28; refine hsp.mono ?_; rintro e w1 ⟨v4, g4, rfl, hO4, hg4, hb4⟩)
  clear hsp
  obtain ⟨cap4, rfl, hc41, hc42⟩ := hO4.form
  unfold maxLen at hc42
  have cl := (hO4.cell n (by omega)).trans hlast
  have bn : (0 : Int) ≤ n := by omega
  have bn2 : (n : Int) < (n : Int) + 1 := by omega
  clear hlast
  have hz : w.heap.size ≤ w1.heap.size := hb4.size
  by_cases he : (splitL 10 l).getD n [0] = []
  rotate_left
  · have hE : (⟨((splitL 10 l).getD n [0]).toArray⟩ : ByteArray).toList.isEmpty = false := by
      rw [ByteArray.toList_mk]
      generalize (splitL 10 l).getD n [0] = T at *
      cases T with
      | nil => exact absurd rfl he
      | cons _ _ => rfl
    have HBD := Lib.hid (rg_bad (fun q => he (HG.out.1 q).1))
    clear he
    generalize ((splitL 10 l).getD n [0]).toArray = T at *
    go_wp2_with fail
    go_ret2
    exact ⟨_, congrArg (fun x => Ending.returned (.tuple #[_, .int .i64 x])) HBD.out.1.symm, _, Nat.le_refl _, by rw [HBD.out.2]; exact .inl ⟨rfl, _, _, rfl, by decide⟩, hb4.alloc hb4.size _⟩
  have hE : (⟨((splitL 10 l).getD n [0]).toArray⟩ : ByteArray).toList.isEmpty = true := by
    rw [ByteArray.toList_mk, he]; rfl
  have HE := Lib.hid he
  clear he
  generalize ((splitL 10 l).getD n [0]).toArray = T at *
  by_cases h40 : n ≤ 40
  rotate_left
  · have i40 : (40 : Int) < n := by omega
    have HBD := Lib.hid (rg_bad (fun q => h40 (HG.out.1 q).2.2.1))
    clear h40
    go_wp2_with fail
    go_ret2
    exact ⟨_, congrArg (fun x => Ending.returned (.tuple #[_, .int .i64 x])) HBD.out.1.symm, _, Nat.le_refl _, by rw [HBD.out.2]; exact .inl ⟨rfl, _, _, rfl, by decide⟩, hb4.alloc hb4.size _⟩
  have i40 : ¬ (40 : Int) < n := by omega
  go_upto_region 6 with fail
  have hO : Own (w1.alloc (.cells #[] 66)) w1.heap.size 66 2 (.slice (some ⟨w1.heap.size, 0, none⟩) 0 0) 0 (rgs 0 (rdG l)) := by rw [rgs_zero]; exact own_blk (Blk.new _ _ _) rfl (by decide) rfl
  have l4 := hO4.lt
  have hO4 := hO4.alloc (.cells #[] 66)
  have hbel := hb4.alloc hb4.size (.cells #[] 66)
  have hqW : w1.heap.size ≤ (w1.alloc (.cells #[] 66)).heap.size := by simp
  generalize w1.alloc (.cells #[] 66) = W at *
  generalize w1.heap.size = q1 at *
  have HO4 := Lib.hid hO4
  clear hO4 hb4 hE cl
  go_upto_region 7 with fail
  go_loopw [6, 7] (fun vl vi wr => ∃ (k : Nat), vi = .int .i64 k ∧ k ≤ n ∧ q1 ≤ wr.heap.size ∧ Below q1 W wr ∧ Below w.heap.size w wr ∧ Hid (∀ j, j < k → okGW (wordsAt l j)) ∧ ∃ g, Own wr g 66 2 vl k (rgs k (rdG l)) ∧ q1 ≤ g) (fun _ vi _ => n - (intOf vi).toNat)
  case atStart => exact ⟨0, rfl, by omega, hqW, Below.refl _ _, hbel, Lib.hid fun j hj => absurd hj (by omega), _, hO, Nat.le_refl _⟩
  case round =>
    obtain ⟨k, rfl, hk, hq, hbW, hbw, hok, g, hO, hg⟩ := hrel
    have bk : (0 : Int) ≤ k := by omega
    have hO4 := HO4.out.below hbW l4
    by_cases hlt : k < n
    · have hline := HLI.out k hlt
      have cl := (hO4.cell k (by omega)).trans hline
      have lO4 := hO4.lt
      have bl : (k : Int) < n := by omega
      have bl2 : (k : Int) < (n : Int) + 1 := by omega
      have hsl := HLL.out k
      have hwl : wordsAt l k = splitL 32 ((splitL 10 l).getD k []) := rfl
      have hS2 := fun w' => l01Split_any ⟨((splitL 10 l).getD k []).toArray⟩ 32 (by rw [size_of]; omega) w'
      rw [show (⟨((splitL 10 l).getD k []).toArray⟩ : ByteArray).data.toList = (splitL 10 l).getD k [] by simp, ← hwl] at hS2
      have hS2 : ∀ w', Calls Tryd.prog 28 #[.string ⟨((splitL 10 l).getD k []).toArray⟩, .int .u8 32] w' fun e w'' => ∃ v g, e = .returned v ∧ Own w'' g 9 1 v (wordsAt l k).length (strs (wordsAt l k)) ∧ w'.heap.size ≤ g ∧ Below w'.heap.size w' w'' := hS2
      have hwle : ∀ i, ((wordsAt l k).getD i []).length ≤ 1048576 := fun i => by
        have := splitL_get_le 32 ((splitL 10 l).getD k []) i
        rw [hwl]; omega
      have HWL := Lib.hid hwle
      have hpl := rgs_succ k (rdG l)
      have hrp : rdG l k = rgW (wordsAt l k) := rfl
      have HGK : Hid (¬ okGW (wordsAt l k) → ¬ goodRg l) := Lib.hid fun h q => h ((HG.out.1 q).2.1 k hlt)
      have HRP := Lib.hid (And.intro hpl hrp)
      obtain ⟨ws, hws⟩ : ∃ ws, wordsAt l k = ws := ⟨_, rfl⟩
      rw [hws] at hS2 HWL HGK HRP
      have HWS := Lib.hid hws
      have hwlen : (wordsAt l k).length ≤ 1048577 := by
        have := splitL_length 32 ((splitL 10 l).getD k [])
        show (splitL 32 ((splitL 10 l).getD k [])).length ≤ _
        omega
      clear hwl hsl hline hwle hpl hrp
      generalize ((splitL 10 l).getD k []).toArray = LT at *
      rw [hws] at hwlen
      clear hws
      go_upto_region 10 with (go_at_call 28; refine (hS2 _).mono ?_; rintro e w2 ⟨v8, g8, rfl, hO8, hg8, hb8⟩)
      have hbW := hbW.trans (hb8.mono hq)
      have hbw := hbw.trans (hb8.mono hbw.size)
      have hO := hO.below hb8 hO.lt
      have hq : q1 ≤ w2.heap.size := Nat.le_trans hq hb8.size
      clear hb8 hS2 hO4 cl
      obtain ⟨cap8, rfl, hc81, hc82⟩ := hO8.form
      by_cases h3 : ws.length = 2
      · have c0 := (hO8.cell 0 (by omega)).trans (strs_getD (by omega))
        have c1 := (hO8.cell 1 (by omega)).trans (strs_getD (by omega))
        have n0 := fun w' => l01Number_any ⟨(ws.getD 0 []).toArray⟩ (by rw [size_of]; exact HWL.out 0) w'
        have n1 := fun w' => l03ReadSigned_any ⟨(ws.getD 1 []).toArray⟩ (by rw [size_of]; exact HWL.out 1) w'
        rw [show (⟨(ws.getD 0 []).toArray⟩ : ByteArray).data.toList = ws.getD 0 [] by simp] at n0
        rw [show (⟨(ws.getD 1 []).toArray⟩ : ByteArray).data.toList = ws.getD 1 [] by simp] at n1
        have HOK : Hid (okGW ws ↔ okG ws = true) := Lib.hid ⟨fun q => q.2, fun q => ⟨h3, q⟩⟩
        have hokb : okG ws = ((decN (ws.getD 0 [])).isSome && sgB (ws.getD 1 []) && (decide (-32768 ≤ sgV (ws.getD 1 [])) && decide (sgV (ws.getD 1 []) ≤ 32767))) := rfl
        have hpw : (rgW ws).cells = #[.int .i64 (((decN (ws.getD 0 [])).getD 0 : Nat) : Int), .int .i16 (sgV (ws.getD 1 []))] := Rg.cells_eq _
        have HPW := Lib.hid hpw
        have hu9 := decN_bd (ws.getD 0 [])
        have hin := fun w' => l00In_any (sgV (ws.getD 1 [])) (-32768) 32767 w'
        rw [h3] at hO8
        clear hpw hO8 hwlen
        rw [h3] at hc81 ⊢
        generalize (decN (ws.getD 0 [])).getD 0 = u0 at *
        generalize sgV (ws.getD 1 []) = z1 at *
        generalize (decN (ws.getD 0 [])).isSome = d0 at *
        generalize sgB (ws.getD 1 []) = d1 at *
        generalize (ws.getD 0 []).toArray = s0 at *
        generalize (ws.getD 1 []).toArray = s1 at *
        go_upto_region 14 with (first | (go_at_call 29; refine (n0 _).mono ?_; rintro e w' ⟨rfl, hw⟩; rw [hw]; clear hw w') | (go_at_call 32; refine (n1 _).mono ?_; rintro e w' ⟨rfl, hw⟩; rw [hw]; clear hw w'))
        clear c0 c1 n0 n1
        have hcases : (d0 = false) ∨ (d0 = true ∧ d1 = false) ∨ (d0 = true ∧ d1 = true ∧ (decide (-32768 ≤ z1) && decide (z1 ≤ 32767)) = false) ∨ (d0 = true ∧ d1 = true ∧ (decide (-32768 ≤ z1) && decide (z1 ≤ 32767)) = true) := by
          cases d0 <;> cases d1 <;> cases (decide (-32768 ≤ z1) && decide (z1 ≤ 32767)) <;> simp
        rcases hcases with rfl | ⟨rfl, rfl⟩ | ⟨rfl, rfl, i0⟩ | ⟨rfl, rfl, i0⟩
        rotate_left 3
        · have hgood : okG ws = true := by rw [hokb, i0]; rfl
          rw [i0] at hin
          simp only [Bool.and_eq_true, decide_eq_true_eq] at i0
          have HOKS : Hid (∀ j, j < k + 1 → okGW (wordsAt l j)) := Lib.hid fun j hj => by
            by_cases hjk : j < k
            · exact hok.out j hjk
            · obtain rfl : j = k := by omega
              rw [HWS.out]; exact HOK.out.2 hgood
          have w2' : IntKind.i16.wrap z1 = z1 := wrap16s _ i0
          clear hokb hgood i0
          go_wp2_with (first | (go_at_call 33; refine (hin _).mono ?_; rintro e w' ⟨rfl, hw⟩; rw [hw]; clear hw w') | (at_builtin; refine wpList_app elRg rfl rfl rfl rfl (by decide) (hO.alloc _) (Blk.new _ _ _) rfl ?_ ?_ ?_ ?_; (· intro u hu; simp at hu; rcases hu with rfl | rfl <;> rfl); (· unfold maxLen; omega); (· omega); intro v1 w3 g1 hown hgr hg1))
          have hb3 := (hbw.alloc hbw.size (.cells #[.int .i64 u0, .int .i16 z1] 66)).grown hgr (by have := hbw.size; simp; omega) (fun q hq => by injection hq with hq; omega)
          have hb3W := (hbW.alloc hq (.cells #[.int .i64 u0, .int .i16 z1] 66)).grown hgr (by simp; omega) (fun q hq => by injection hq with hq; omega)
          have hsz3 := hgr.size
          rw [World.size_alloc] at hsz3
          go_roundw
          case rel =>
            refine ⟨k + 1, by go_num, by omega, ?_, hb3W, hb3, HOKS, g1, ?_, ?_⟩
            · omega
            · rw [HRP.out.1, HRP.out.2, HPW.out]; exact hown
            · simp at hg1; omega
          case measure => simp [intOf]; omega
        all_goals (
          have hbadB : okG ws = false := by
            rw [hokb]
            first | rfl | (rw [i0]; rfl)
          have HBD := Lib.hid (rg_bad (HGK.out fun q => by
            have q2 := HOK.out.1 q
            rw [hbadB] at q2
            cases q2))
          first | (rw [i0] at hin) | skip
          clear hokb hbadB
          go_wp2_with (go_at_call 33; refine (hin _).mono ?_; rintro e w' ⟨rfl, hw⟩; rw [hw]; clear hw w')
          go_ret2
          exact ⟨_, congrArg (fun x => Ending.returned (.tuple #[_, .int .i64 x])) HBD.out.1.symm, _, Nat.le_refl _, by rw [HBD.out.2]; exact .inl ⟨rfl, _, _, rfl, by decide⟩, hbw.alloc hbw.size _⟩)
      · have b3 : ¬ ((ws.length : Nat) : Int) = 2 := by omega
        have HBD := Lib.hid (rg_bad (HGK.out fun q => h3 q.1))
        clear h3
        go_wp2_with fail
        go_ret2
        exact ⟨_, congrArg (fun x => Ending.returned (.tuple #[_, .int .i64 x])) HBD.out.1.symm, _, Nat.le_refl _, by rw [HBD.out.2]; exact .inl ⟨rfl, _, _, rfl, by decide⟩, hbw.alloc hbw.size _⟩
    · obtain rfl : k = n := by omega
      have hP := l04Ok_any k (rdG l) _ wr hO.rsl
      rw [decide_eq_true h40, Bool.true_and] at hP
      obtain ⟨cp, rfl, hcp1, hcp2⟩ := hO.form
      cases hT : okT (rdG l) k <;> rw [hT] at hP
      · have HBD := Lib.hid (rg_bad (l := l) (fun q => by have := (HG.out.1 q).2.2.2; rw [hT] at this; cases this))
        clear hT hok
        go_wp2_with (go_at_call 34; refine hP.mono ?_; rintro e w' ⟨rfl, hw⟩; rw [hw]; clear hw w')
        go_ret2
        exact ⟨_, congrArg (fun x => Ending.returned (.tuple #[_, .int .i64 x])) HBD.out.1.symm, _, Nat.le_refl _, by rw [HBD.out.2]; exact .inl ⟨rfl, _, _, rfl, by decide⟩, hbw.alloc hbw.size _⟩
      · have HGD := Lib.hid (rg_good (l := l) (HG.out.2 ⟨HE.out, hok.out, h40, hT⟩))
        clear hT hok
        go_wp2_with (go_at_call 34; refine hP.mono ?_; rintro e w' ⟨rfl, hw⟩; rw [hw]; clear hw w')
        go_ret2
        exact ⟨_, congrArg (fun x => Ending.returned (.tuple #[_, .int .i64 x])) HGD.out.1.symm, _, Nat.le_trans hz hg, by rw [HGD.out.2, HN0.out]; exact .inr hO, hbw⟩
end Go.Proofs.YtcojgmgoiopboaaDoor
