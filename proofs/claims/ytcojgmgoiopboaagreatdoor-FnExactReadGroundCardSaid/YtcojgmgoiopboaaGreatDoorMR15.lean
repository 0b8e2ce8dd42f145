import Derived.Test.YtcojgmgoiopboaaGreatDoorMR13
import Derived.Test.YtcojgmgoiopboaaGreatDoorMR11
import Derived.Test.YtcojgmgoiopboaaGreatDoorMR01
import Derived.Test.YtcojgmgoiopboaaGreatDoorMR06
import Derived.Shelf.Strconv.ParseIntPublic10
import Derived.Lib.ParseIntBCases
import Derived.RegionTactic
import Derived.IntWalk
import Derived.Laws.IdiomStrings
/- numberOf: a word's whole number in a range, in the program; l01Number in the reference: the walks. -/
namespace Go.Proofs.YtcojgmgoiopboaaGreatDoor
open Go.ChangeShapes Go.WideShapes Go.ChangeAt Go.RowKit
set_option linter.unusedVariables false
set_option linter.unusedSimpArgs false
attribute [local irreducible] Calls

/-- The library's two errors lie where they were laid. -/
def ParseVars (w : World) : Prop := (∃ te pe, w.cell? ⟨2, 0, none⟩ = some (.iface te pe)) ∧ (∃ te pe, w.cell? ⟨3, 0, none⟩ = some (.iface te pe))
theorem ParseVars.below {w w' : World} (h : ParseVars w) (hb : Below w.heap.size w w') : ParseVars w' := by
  obtain ⟨⟨a, b, h1⟩, ⟨c, d, h2⟩⟩ := h
  exact ⟨⟨a, b, (hb.cell (p := ⟨2, 0, none⟩) (Lib.lt_of_cell h1)).trans h1⟩, ⟨c, d, (hb.cell (p := ⟨3, 0, none⟩) (Lib.lt_of_cell h2)).trans h2⟩⟩
/-- The number that ParseInt reads. -/
def intV (l : List UInt8) : Option Int := match Lib.parseIntB 64 l with | .ok v => some v | _ => none
theorem parse64_any (s : ByteArray) (hs : s.size ≤ 1048576) (w : World) (hV : ParseVars w) :
    Calls Tryz.prog 43 #[.string s, .int .i64 10, .int .i64 64] w fun e w' => ((∃ v, intV s.data.toList = some v ∧ e = .returned (.tuple #[.int .i64 v, .nilIface])) ∨ (intV s.data.toList = none ∧ ∃ v t p, e = .returned (.tuple #[.int .i64 v, .iface t p]))) ∧ Below w.heap.size w w' := by
  obtain ⟨⟨a, b, h1⟩, ⟨c, d, h2⟩⟩ := hV
  unfold intV
  rcases hp : Lib.parseIntB 64 s.data.toList with v | _ | _
  · refine (Any.strconv_ParseInt_10_at64_ok sh_laysC174 s (by omega) v hp w).mono ?_
    rintro e w' ⟨rfl, rfl | ⟨t, rfl⟩⟩
    · exact ⟨.inl ⟨v, rfl, rfl⟩, Below.refl _ _⟩
    · exact ⟨.inl ⟨v, rfl, rfl⟩, rfl, rfl, rfl, by rw [Lib.bytesWorld_size]; omega, fun k hk => Lib.bytesWorld_at_old _ _ _ k (by omega)⟩
  · refine (Any.strconv_ParseInt_10_at64_syntax sh_laysC174 s (by omega) hp _ w h1 (.inr ⟨a, b, rfl⟩)).mono ?_
    rintro e w' ⟨N, rfl, _, _, hb⟩
    exact ⟨.inr ⟨rfl, _, _, _, rfl⟩, hb⟩
  · refine (Any.strconv_ParseInt_10_at64_range sh_laysC174 s (by omega) hp _ w h2 (.inr ⟨c, d, rfl⟩)).mono ?_
    rintro e w' ⟨N, rfl, _, _, hb⟩
    exact ⟨.inr ⟨rfl, _, _, _, rfl⟩, hb⟩
/-- A word's number, 0 where it has none in the range. -/
def numZ (lo hi : Int) (l : List UInt8) : Int := match intV l with | some v => if decide (lo ≤ v) && decide (v ≤ hi) then v else 0 | none => 0
set_option maxRecDepth 100000 in
set_option maxHeartbeats 400000 in
theorem numberOf_any (s : ByteArray) (hs : s.size ≤ 1048576) (lo hi : Int) (w : World) (hV : ParseVars w) :
    Calls Tryz.prog 17 #[.string s, .int .i64 lo, .int .i64 hi] w fun e w' => e = .returned (.int .i64 (numZ lo hi s.data.toList)) ∧ Below w.heap.size w w' := by
  have hp := parse64_any s hs w hV
  clear hV
  go_enter Tryz.func17, Tryz.ntmps17
  go_upto_region 1 with fail
  go_wp2_with (go_at_call 43; refine hp.mono ?_; rintro e w1 ⟨⟨v, hv, rfl⟩ | ⟨hv, v, t, p, rfl⟩, hb⟩)
  · have hin := fun w' => in_any v lo hi w'
    cases hd : (decide (lo ≤ v) && decide (v ≤ hi)) <;> rw [hd] at hin
    · have HN : Hid (numZ lo hi s.data.toList = 0) := Lib.hid (by unfold numZ; rw [hv]; simp only [hd]; rfl)
      clear hv hd
      go_wp2_with (go_at_call 44; refine (hin _).mono ?_; rintro e w' ⟨rfl, hw⟩; rw [hw]; clear hw w')
      go_ret
      exact ⟨congrArg (fun x => Ending.returned (.int .i64 x)) HN.out.symm, hb⟩
    · have HN : Hid (numZ lo hi s.data.toList = v) := Lib.hid (by unfold numZ; rw [hv]; simp only [hd]; rfl)
      clear hv hd
      go_wp2_with (go_at_call 44; refine (hin _).mono ?_; rintro e w' ⟨rfl, hw⟩; rw [hw]; clear hw w')
      go_ret
      exact ⟨congrArg (fun x => Ending.returned (.int .i64 x)) HN.out.symm, hb⟩
  · have HN : Hid (numZ lo hi s.data.toList = 0) := Lib.hid (by unfold numZ; rw [hv])
    clear hv
    go_wp2_with fail
    go_ret
    exact ⟨congrArg (fun x => Ending.returned (.int .i64 x)) HN.out.symm, hb⟩
theorem numZ_in (lo hi : Int) (h : lo ≤ 0 ∧ 0 ≤ hi) (l : List UInt8) : lo ≤ numZ lo hi l ∧ numZ lo hi l ≤ hi := by
  unfold numZ
  split
  · split
    · rename_i h; simpa using h
    · exact h
  · exact h
theorem parseM_digits : ∀ (l : List UInt8) (a u : Nat), decV a l = some u → u < 1000000000 → Lib.parseUintM (2 ^ 64 - 1) a l = .ok u
  | [], a, u, h, _ => by injection h with h; subst h; rfl
  | c :: l, a, u, h, hu => by
    have hle := (decV_le _ _ _ h).1
    have h : (if 48 ≤ c.toNat ∧ c.toNat ≤ 57 then decV (a * 10 + (c.toNat - 48)) l else none) = some u := h
    split at h
    · rename_i hc
      have hle2 := (decV_le _ _ _ h).1
      have hp : 1 ≤ 10 ^ l.length := Nat.pow_pos (by decide)
      have : a * 10 + (c.toNat - 48) ≤ u := Nat.le_trans (Nat.le_mul_of_pos_right _ hp) hle2
      rw [Lib.parseUintM, if_pos hc, if_neg (by omega), if_neg (by omega)]
      exact parseM_digits l _ u h hu
    · cases h
theorem intV_digits {u : Nat} (h : u < 1000000000) : intV (Lib.decDigits u) = some (u : Int) := by
  have hv := decV_decDigits u u (Nat.le_refl _)
  have hd := decDigits_digits u u (Nat.le_refl _)
  have hp := decDigits_pos u
  generalize Lib.decDigits u = l at *
  cases l with
  | nil => simp at hp
  | cons c r =>
    have hc := hd c (by simp)
    have hm := parseM_digits _ _ _ hv h
    unfold intV Lib.parseIntB Lib.parseUintB
    have e : (if c.toNat = 43 ∨ c.toNat = 45 then r else c :: r) = c :: r := by rw [if_neg (by omega)]
    simp only [e]
    rw [if_neg (by simp), hm]
    have h1 : ¬ (¬ c.toNat = 45 ∧ 2 ^ (64 - 1) ≤ u) := by omega
    have h2 : ¬ (c.toNat = 45 ∧ 2 ^ (64 - 1) < u) := by omega
    have h3 : ¬ c.toNat = 45 := by omega
    simp only [if_neg h1, if_neg h2, if_neg h3]
theorem numZ_digits {u : Nat} {hi : Nat} (h : u ≤ hi) (hhi : hi ≤ 1000) : numZ 0 hi (Lib.decDigits u) = u := by
  unfold numZ
  rw [intV_digits (by omega)]
  simp; omega
theorem decV_step {n : Nat} {c : UInt8} {l : List UInt8} (h : 48 ≤ c.toNat ∧ c.toNat ≤ 57) : decV n (c :: l) = decV (n * 10 + (c.toNat - 48)) l := by
  show (if _ then _ else _) = _
  rw [if_pos h]
theorem decV_stop {n : Nat} {c : UInt8} {l : List UInt8} (h : ¬ (48 ≤ c.toNat ∧ c.toNat ≤ 57)) : decV n (c :: l) = none := by
  show (if _ then _ else _) = _
  rw [if_neg h]
set_option maxRecDepth 100000 in
set_option maxHeartbeats 4000000 in
theorem l01Number_any (s : ByteArray) (hs : s.size ≤ 1048576) (w : World) :
    Calls Tryz.prog 22 #[.string s] w fun e w' => e = .returned (.tuple #[.int .i64 (((decN s.data.toList).getD 0 : Nat) : Int), .bool (decN s.data.toList).isSome]) ∧ w' = w := by
  have hidx : ∀ (k : Nat) (h : k < s.size) w', (Instr.index 9 (.string s) (.int .i64 (k : Int))).run Tryz.prog w' = .ok (.int .u8 ((s.data.toList.getD k 0).toNat : Int)) w' := fun k h w' => by
    rw [run_index_string w' 9 _ .i64 _ Tryz.underlying9, dif_pos ⟨by omega, by omega⟩]
    have e2 : ((k : Int)).toNat = k := by omega
    simp only [e2]
    rw [List.getD_eq_getElem?_getD, List.getElem?_eq_getElem (show k < s.data.toList.length from h)]
    rfl
  have HX := Lib.hid hidx
  have hl : s.data.toList.length = s.size := rfl
  have HL := Lib.hid hl
  have hD : decN s.data.toList = if 1 ≤ s.data.toList.length ∧ s.data.toList.length ≤ 9 ∧ ¬ (s.data.toList.head? = some 48 ∧ 1 < s.data.toList.length) then decV 0 s.data.toList else none := rfl
  clear hidx hl
  generalize s.data.toList = bs at *
  by_cases h1 : s.size < 1
  · have i1 : (s.size : Int) < 1 := by omega
    rw [if_neg (by rw [HL.out]; omega)] at hD
    rw [hD]
    clear hD h1
    go_enter Tryz.func22, Tryz.ntmps22
    go_wp2_with fail
    go_ret2
    exact ⟨rfl, rfl⟩
  by_cases h9 : 9 < s.size
  · have i1 : ¬ (s.size : Int) < 1 := by omega
    have i9 : (9 : Int) < s.size := by omega
    rw [if_neg (by rw [HL.out]; omega)] at hD
    rw [hD]
    clear hD h1 h9
    go_enter Tryz.func22, Tryz.ntmps22
    go_wp2_with fail
    go_ret2
    exact ⟨rfl, rfl⟩
  have i1 : ¬ (s.size : Int) < 1 := by omega
  have i9 : ¬ (9 : Int) < s.size := by omega
  have hx0 := fun w' => HX.out 0 (by omega) w'
  rw [show (((0 : Nat) : Int)) = 0 from rfl] at hx0
  by_cases h0 : bs.head? = some 48 ∧ 1 < bs.length
  · have ib : (1 : Int) < s.size := by have := HL.out; omega
    have e0 : bs.getD 0 0 = 48 := by
      obtain ⟨q, _⟩ := h0
      cases bs with
      | nil => cases q
      | cons c l => injection q
    rw [e0] at hx0
    rw [if_neg (fun q => q.2.2 h0)] at hD
    rw [hD]
    clear hD h1 h9 h0 e0
    go_enter Tryz.func22, Tryz.ntmps22
    go_wp2_with fail
    go_ret2
    exact ⟨rfl, rfl⟩
  have hcond : (((bs.getD 0 0).toNat : Int) = 48 ∧ s.size = 1) ∨ ¬ ((bs.getD 0 0).toNat : Int) = 48 := by
    by_cases q : ((bs.getD 0 0).toNat : Int) = 48
    · left
      refine ⟨q, ?_⟩
      have hL := HL.out
      by_cases hb : 1 < bs.length
      · exfalso
        apply h0
        refine ⟨?_, hb⟩
        cases bs with
        | nil => simp at hb
        | cons c l =>
          have : c.toNat = 48 := by
            have q2 : ((c.toNat : Nat) : Int) = 48 := by simpa using q
            omega
          show some c = some 48
          rw [show c = 48 from UInt8.toNat_inj.1 this]
      · omega
    · exact .inr q
  rw [if_pos ⟨by rw [HL.out]; omega, by rw [HL.out]; omega, h0⟩] at hD
  have HD := Lib.hid hD
  have hs9 : s.size ≤ 9 := by omega
  generalize bs.getD 0 0 = c0 at *
  have hE : ∀ (Q : Ending → World → Prop) , True := fun _ => trivial
  clear hE hD h0 h1 h9
  go_enter Tryz.func22, Tryz.ntmps22
  rcases hcond with ⟨hc1, hc2⟩ | hc1
  all_goals (
    first | (have iq : ¬ (1 : Int) < s.size := by omega) | skip
    go_upto_region 5 with fail
    clear hx0
    go_loopw [4, 5] (fun vn vi wr => ∃ (k n : Nat), vi = .int .i64 k ∧ vn = .int .i64 n ∧ k ≤ s.size ∧ n < 10 ^ k ∧ Hid (decV 0 bs = decV n (bs.drop k)) ∧ wr = w) (fun _ vi _ => s.size - (intOf vi).toNat)
    case atStart => exact ⟨0, 0, rfl, rfl, by omega, by decide, Lib.hid rfl, rfl⟩
    case round =>
      obtain ⟨k, n, rfl, rfl, hk, hn, hd, rfl⟩ := hrel
      have bk : (0 : Int) ≤ k := by omega
      by_cases hlt : k < s.size
      · have bl : (k : Int) < s.size := by omega
        have hix := fun w' => HX.out k hlt w'
        have hlb : k < bs.length := by rw [HL.out]; exact hlt
        have hdrop : bs.drop k = bs[k] :: bs.drop (k + 1) := List.drop_eq_getElem_cons hlb
        have hget : bs.getD k 0 = bs[k] := by rw [List.getD_eq_getElem?_getD, List.getElem?_eq_getElem hlb]; rfl
        have hd2 := hd.out
        rw [hdrop] at hd2
        rw [hget] at hix
        have hp9 : 10 ^ (k + 1) ≤ 10 ^ 9 := Nat.pow_le_pow_right (by decide) (by omega)
        have hp1 : 10 ^ (k + 1) = 10 ^ k * 10 := Nat.pow_succ _ _
        clear hdrop hget
        have hc256 : (bs[k]).toNat < 256 := UInt8.toNat_lt _
        generalize bs[k] = c at *
        by_cases hlo : c.toNat < 48
        · have il : ((c.toNat : Nat) : Int) < 48 := by omega
          rw [decV_stop (by omega)] at hd2
          have HR : Hid (decN bs = none) := Lib.hid (HD.out.trans hd2)
          clear hd2 hlo hn hp9 hp1
          go_wp2_with fail
          go_ret2
          exact ⟨by rw [HR.out]; rfl, rfl⟩
        by_cases hhi : 57 < c.toNat
        · have il : ¬ ((c.toNat : Nat) : Int) < 48 := by omega
          have ih : (57 : Int) < ((c.toNat : Nat) : Int) := by omega
          rw [decV_stop (by omega)] at hd2
          have HR : Hid (decN bs = none) := Lib.hid (HD.out.trans hd2)
          clear hd2 hlo hhi hn hp9 hp1
          go_wp2_with fail
          go_ret2
          exact ⟨by rw [HR.out]; rfl, rfl⟩
        rw [decV_step (by omega)] at hd2
        have hn2 : n * 10 + (c.toNat - 48) < 10 ^ (k + 1) := by omega
        have hn3 : n ≤ 1000000000 := by omega
        have HR : Hid (decV 0 bs = decV (n * 10 + (c.toNat - 48)) (bs.drop (k + 1)) ∧ n * 10 + (c.toNat - 48) < 10 ^ (k + 1)) := Lib.hid ⟨hd2, hn2⟩
        have il : ¬ ((c.toNat : Nat) : Int) < 48 := by omega
        have ih : ¬ (57 : Int) < ((c.toNat : Nat) : Int) := by omega
        have w1 : IntKind.u8.wrap ((c.toNat : Int) - 48) = (c.toNat : Int) - 48 := by rw [IntKind.wrap_u8]; omega
        have w2 : IntKind.i64.wrap ((n : Int) * 10) = (n : Int) * 10 := IntWalk.i64_in _ (by omega)
        have w3 : IntKind.i64.wrap ((n : Int) * 10 + ((c.toNat : Int) - 48)) = (n : Int) * 10 + ((c.toNat : Int) - 48) := IntWalk.i64_in _ (by omega)
        have w4 : IntKind.i64.wrap ((c.toNat : Int) - 48) = (c.toNat : Int) - 48 := IntWalk.i64_in _ (by omega)
        have w5 : (n : Int) * 10 + ((c.toNat : Int) - 48) = ((n * 10 + (c.toNat - 48) : Nat) : Int) := by omega
        have W5 := Lib.hid w5
        clear hd2 hn2 hn hp9 hp1 w5 hd
        go_wp2_with fail
        go_roundw
        case rel => exact ⟨k + 1, n * 10 + (c.toNat - 48), by go_num, by rw [W5.out], by omega, HR.out.2, Lib.hid HR.out.1, by first | rfl | trivial⟩
        case measure => simp [intOf]; omega
      · obtain rfl : k = s.size := by omega
        have hd2 := hd.out
        rw [List.drop_eq_nil_of_le (show bs.length ≤ s.size by rw [HL.out]; exact Nat.le_refl _)] at hd2
        have HR : Hid (decN bs = some n) := Lib.hid (HD.out.trans hd2)
        clear hn hd hd2
        go_wp2_with fail
        go_ret2
        exact ⟨by rw [HR.out]; rfl, rfl⟩)
end Go.Proofs.YtcojgmgoiopboaaGreatDoor
/- Decimal, in the reference: the walk. -/
namespace Go.Proofs.YtcojgmgoiopboaaGreatDoor
open Go.ChangeShapes Go.WideShapes Go.ChangeAt Go.RowKit
set_option linter.unusedVariables false
set_option linter.unusedSimpArgs false
attribute [local irreducible] Calls
theorem conv1 {w : World} {r : Nat} {T : TypeId} {c : UInt8} (h : Blk w r #[.int .u8 (c.toNat : Int)] T) : (convert 90 9 (.slice (some ⟨r, 0, none⟩) 1 1)).run Tryz.prog w = .ok (.string ⟨#[c]⟩) w :=
  run_convert_bytes_back (P := Tryz.prog) w 90 9 5 ⟨r, 0, none⟩ 1 [c] Tryz.underlying90 Tryz.underlying5 Tryz.underlying9 (fun j hj => by
    have hj : j = 0 := by simpa using hj
    subst hj
    exact h.cell 0)
end Go.Proofs.YtcojgmgoiopboaaGreatDoor
