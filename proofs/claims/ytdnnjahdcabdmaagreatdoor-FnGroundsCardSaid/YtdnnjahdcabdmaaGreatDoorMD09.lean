import Derived.Test.YtdnnjahdcabdmaaGreatDoorMD08
/- The neighbour of a cell: the walks through the program's function and the reference's. -/
namespace Go.Proofs.YtdnnjahdcabdmaaGreatDoor
open Go.ChangeShapes Go.WideShapes Go.ChangeAt Go.RowKit
set_option linter.unusedVariables false
set_option linter.unusedSimpArgs false
attribute [local irreducible] Calls

set_option maxRecDepth 100000 in
set_option maxHeartbeats 800000 in
theorem beside_any (g : Gr) (b : Nat) (c s : Nat) (hg : g.ok) (hc : c < 64) (hs : s < 4) (w : World) (hb : GAt w b g) :
    Calls Tryz.prog 95 #[.pointer (some ⟨b, 0, none⟩), .int .i64 c, .int .i64 s] w fun e w' => e = .returned (.int .i64 (bes g c s)) ∧ w' = w := by
  obtain ⟨h1, h2, h3⟩ := hg
  have c0 : w.cell? ⟨b, 0, none⟩ = some (.int .i8 g.wide) := hb.get0
  have c1 : w.cell? ⟨b, 1, none⟩ = some (.int .i8 g.high) := hb.get1
  have bk : (0 : Int) ≤ c := by omega
  have bl : (c : Int) < 64 := by omega
  have H : ∀ r, r = bes g c s → ∀ w', w' = w → (Ending.returned (.int .i64 r) = .returned (.int .i64 (bes g c s)) ∧ w' = w) := fun r h w' h' => ⟨by rw [h], h'⟩
  match s, hs with
  | 0, _ | 1, _ | 2, _ | 3, _ =>
    go_enter Tryz.func95, Tryz.ntmps95
    go_wp2_with fail
    all_goals
      go_ret
      exact H _ (by unfold bes besIn besX besY; simp; omega) _ rfl

set_option maxRecDepth 100000 in
set_option maxHeartbeats 400000 in
theorem l01Beside_0 (g : Gr) (b : Nat) (c : Nat) (hg : g.ok) (hc : c < 64) (w : World) (hb : GAt w b g) :
    Calls Tryz.prog 167 #[.pointer (some ⟨b, 0, none⟩), .int .i64 c, .int .i64 0] w fun e w' => e = .returned (.int .i64 (bes g c 0)) ∧ w' = w := by
  obtain ⟨h1, h2, h3⟩ := hg
  have c0 : w.cell? ⟨b, 0, none⟩ = some (.int .i8 g.wide) := hb.get0
  have c1 : w.cell? ⟨b, 1, none⟩ = some (.int .i8 g.high) := hb.get1
  have bk : (0 : Int) ≤ c := by omega
  have bl : (c : Int) < 64 := by omega
  by_cases hx : 0 ≤ (c : Int) % 8 ∧ (c : Int) % 8 < g.wide
  · have d1 : (decide (0 ≤ (c : Int) % 8) && decide ((c : Int) % 8 ≤ g.wide - 1)) = true := by simp; omega
    by_cases hy : 0 ≤ (c : Int) / 8 - 1 ∧ (c : Int) / 8 - 1 < g.high
    · have d2 : (decide (0 ≤ (c : Int) / 8 - 1) && decide ((c : Int) / 8 - 1 ≤ g.high - 1)) = true := by simp; omega
      have HB : Hid (bes g c 0 = (c : Int) % 8 + 8 * ((c : Int) / 8 - 1)) := Lib.hid (by unfold bes besIn besX besY; simp; omega)
      have HD := Lib.hid (And.intro hx hy)
      clear hx hy
      go_enter Tryz.func167, Tryz.ntmps167
      go_wp2_with (go_at_call 123; refine (l00In_any _ _ _ _).mono ?_; (first | rw [d1] | rw [d2]); rintro e w' ⟨rfl, hw⟩; rw [hw]; clear hw w')
      go_ret
      exact ⟨int_eq HB.out.symm, rfl⟩
    · have d2 : (decide (0 ≤ (c : Int) / 8 - 1) && decide ((c : Int) / 8 - 1 ≤ g.high - 1)) = false := by simp; omega
      have HB : Hid (bes g c 0 = -1) := Lib.hid (by unfold bes besIn besX besY; simp; omega)
      clear hx hy
      go_enter Tryz.func167, Tryz.ntmps167
      go_wp2_with (go_at_call 123; refine (l00In_any _ _ _ _).mono ?_; (first | rw [d1] | rw [d2]); rintro e w' ⟨rfl, hw⟩; rw [hw]; clear hw w')
      go_ret
      exact ⟨int_eq HB.out.symm, rfl⟩
  · have d1 : (decide (0 ≤ (c : Int) % 8) && decide ((c : Int) % 8 ≤ g.wide - 1)) = false := by simp; omega
    have HB : Hid (bes g c 0 = -1) := Lib.hid (by unfold bes besIn besX besY; simp; omega)
    clear hx
    go_enter Tryz.func167, Tryz.ntmps167
    go_wp2_with (go_at_call 123; refine (l00In_any _ _ _ _).mono ?_; rw [d1]; rintro e w' ⟨rfl, hw⟩; rw [hw]; clear hw w')
    go_ret
    exact ⟨int_eq HB.out.symm, rfl⟩
set_option maxRecDepth 100000 in
set_option maxHeartbeats 400000 in
theorem l01Beside_1 (g : Gr) (b : Nat) (c : Nat) (hg : g.ok) (hc : c < 64) (w : World) (hb : GAt w b g) :
    Calls Tryz.prog 167 #[.pointer (some ⟨b, 0, none⟩), .int .i64 c, .int .i64 1] w fun e w' => e = .returned (.int .i64 (bes g c 1)) ∧ w' = w := by
  obtain ⟨h1, h2, h3⟩ := hg
  have c0 : w.cell? ⟨b, 0, none⟩ = some (.int .i8 g.wide) := hb.get0
  have c1 : w.cell? ⟨b, 1, none⟩ = some (.int .i8 g.high) := hb.get1
  have bk : (0 : Int) ≤ c := by omega
  have bl : (c : Int) < 64 := by omega
  by_cases hx : 0 ≤ (c : Int) % 8 + 1 ∧ (c : Int) % 8 + 1 < g.wide
  · have d1 : (decide (0 ≤ (c : Int) % 8 + 1) && decide ((c : Int) % 8 + 1 ≤ g.wide - 1)) = true := by simp; omega
    by_cases hy : 0 ≤ (c : Int) / 8 ∧ (c : Int) / 8 < g.high
    · have d2 : (decide (0 ≤ (c : Int) / 8) && decide ((c : Int) / 8 ≤ g.high - 1)) = true := by simp; omega
      have HB : Hid (bes g c 1 = (c : Int) % 8 + 1 + 8 * ((c : Int) / 8)) := Lib.hid (by unfold bes besIn besX besY; simp; omega)
      have HD := Lib.hid (And.intro hx hy)
      clear hx hy
      go_enter Tryz.func167, Tryz.ntmps167
      go_wp2_with (go_at_call 123; refine (l00In_any _ _ _ _).mono ?_; (first | rw [d1] | rw [d2]); rintro e w' ⟨rfl, hw⟩; rw [hw]; clear hw w')
      go_ret
      exact ⟨int_eq HB.out.symm, rfl⟩
    · have d2 : (decide (0 ≤ (c : Int) / 8) && decide ((c : Int) / 8 ≤ g.high - 1)) = false := by simp; omega
      have HB : Hid (bes g c 1 = -1) := Lib.hid (by unfold bes besIn besX besY; simp; omega)
      clear hx hy
      go_enter Tryz.func167, Tryz.ntmps167
      go_wp2_with (go_at_call 123; refine (l00In_any _ _ _ _).mono ?_; (first | rw [d1] | rw [d2]); rintro e w' ⟨rfl, hw⟩; rw [hw]; clear hw w')
      go_ret
      exact ⟨int_eq HB.out.symm, rfl⟩
  · have d1 : (decide (0 ≤ (c : Int) % 8 + 1) && decide ((c : Int) % 8 + 1 ≤ g.wide - 1)) = false := by simp; omega
    have HB : Hid (bes g c 1 = -1) := Lib.hid (by unfold bes besIn besX besY; simp; omega)
    clear hx
    go_enter Tryz.func167, Tryz.ntmps167
    go_wp2_with (go_at_call 123; refine (l00In_any _ _ _ _).mono ?_; rw [d1]; rintro e w' ⟨rfl, hw⟩; rw [hw]; clear hw w')
    go_ret
    exact ⟨int_eq HB.out.symm, rfl⟩
set_option maxRecDepth 100000 in
set_option maxHeartbeats 400000 in
theorem l01Beside_2 (g : Gr) (b : Nat) (c : Nat) (hg : g.ok) (hc : c < 64) (w : World) (hb : GAt w b g) :
    Calls Tryz.prog 167 #[.pointer (some ⟨b, 0, none⟩), .int .i64 c, .int .i64 2] w fun e w' => e = .returned (.int .i64 (bes g c 2)) ∧ w' = w := by
  obtain ⟨h1, h2, h3⟩ := hg
  have c0 : w.cell? ⟨b, 0, none⟩ = some (.int .i8 g.wide) := hb.get0
  have c1 : w.cell? ⟨b, 1, none⟩ = some (.int .i8 g.high) := hb.get1
  have bk : (0 : Int) ≤ c := by omega
  have bl : (c : Int) < 64 := by omega
  by_cases hx : 0 ≤ (c : Int) % 8 ∧ (c : Int) % 8 < g.wide
  · have d1 : (decide (0 ≤ (c : Int) % 8) && decide ((c : Int) % 8 ≤ g.wide - 1)) = true := by simp; omega
    by_cases hy : 0 ≤ (c : Int) / 8 + 1 ∧ (c : Int) / 8 + 1 < g.high
    · have d2 : (decide (0 ≤ (c : Int) / 8 + 1) && decide ((c : Int) / 8 + 1 ≤ g.high - 1)) = true := by simp; omega
      have HB : Hid (bes g c 2 = (c : Int) % 8 + 8 * ((c : Int) / 8 + 1)) := Lib.hid (by unfold bes besIn besX besY; simp; omega)
      have HD := Lib.hid (And.intro hx hy)
      clear hx hy
      go_enter Tryz.func167, Tryz.ntmps167
      go_wp2_with (go_at_call 123; refine (l00In_any _ _ _ _).mono ?_; (first | rw [d1] | rw [d2]); rintro e w' ⟨rfl, hw⟩; rw [hw]; clear hw w')
      go_ret
      exact ⟨int_eq HB.out.symm, rfl⟩
    · have d2 : (decide (0 ≤ (c : Int) / 8 + 1) && decide ((c : Int) / 8 + 1 ≤ g.high - 1)) = false := by simp; omega
      have HB : Hid (bes g c 2 = -1) := Lib.hid (by unfold bes besIn besX besY; simp; omega)
      clear hx hy
      go_enter Tryz.func167, Tryz.ntmps167
      go_wp2_with (go_at_call 123; refine (l00In_any _ _ _ _).mono ?_; (first | rw [d1] | rw [d2]); rintro e w' ⟨rfl, hw⟩; rw [hw]; clear hw w')
      go_ret
      exact ⟨int_eq HB.out.symm, rfl⟩
  · have d1 : (decide (0 ≤ (c : Int) % 8) && decide ((c : Int) % 8 ≤ g.wide - 1)) = false := by simp; omega
    have HB : Hid (bes g c 2 = -1) := Lib.hid (by unfold bes besIn besX besY; simp; omega)
    clear hx
    go_enter Tryz.func167, Tryz.ntmps167
    go_wp2_with (go_at_call 123; refine (l00In_any _ _ _ _).mono ?_; rw [d1]; rintro e w' ⟨rfl, hw⟩; rw [hw]; clear hw w')
    go_ret
    exact ⟨int_eq HB.out.symm, rfl⟩
set_option maxRecDepth 100000 in
set_option maxHeartbeats 400000 in
theorem l01Beside_3 (g : Gr) (b : Nat) (c : Nat) (hg : g.ok) (hc : c < 64) (w : World) (hb : GAt w b g) :
    Calls Tryz.prog 167 #[.pointer (some ⟨b, 0, none⟩), .int .i64 c, .int .i64 3] w fun e w' => e = .returned (.int .i64 (bes g c 3)) ∧ w' = w := by
  obtain ⟨h1, h2, h3⟩ := hg
  have c0 : w.cell? ⟨b, 0, none⟩ = some (.int .i8 g.wide) := hb.get0
  have c1 : w.cell? ⟨b, 1, none⟩ = some (.int .i8 g.high) := hb.get1
  have bk : (0 : Int) ≤ c := by omega
  have bl : (c : Int) < 64 := by omega
  by_cases hx : 0 ≤ (c : Int) % 8 - 1 ∧ (c : Int) % 8 - 1 < g.wide
  · have d1 : (decide (0 ≤ (c : Int) % 8 - 1) && decide ((c : Int) % 8 - 1 ≤ g.wide - 1)) = true := by simp; omega
    by_cases hy : 0 ≤ (c : Int) / 8 ∧ (c : Int) / 8 < g.high
    · have d2 : (decide (0 ≤ (c : Int) / 8) && decide ((c : Int) / 8 ≤ g.high - 1)) = true := by simp; omega
      have HB : Hid (bes g c 3 = (c : Int) % 8 - 1 + 8 * ((c : Int) / 8)) := Lib.hid (by unfold bes besIn besX besY; simp; omega)
      have HD := Lib.hid (And.intro hx hy)
      clear hx hy
      go_enter Tryz.func167, Tryz.ntmps167
      go_wp2_with (go_at_call 123; refine (l00In_any _ _ _ _).mono ?_; (first | rw [d1] | rw [d2]); rintro e w' ⟨rfl, hw⟩; rw [hw]; clear hw w')
      go_ret
      exact ⟨int_eq HB.out.symm, rfl⟩
    · have d2 : (decide (0 ≤ (c : Int) / 8) && decide ((c : Int) / 8 ≤ g.high - 1)) = false := by simp; omega
      have HB : Hid (bes g c 3 = -1) := Lib.hid (by unfold bes besIn besX besY; simp; omega)
      clear hx hy
      go_enter Tryz.func167, Tryz.ntmps167
      go_wp2_with (go_at_call 123; refine (l00In_any _ _ _ _).mono ?_; (first | rw [d1] | rw [d2]); rintro e w' ⟨rfl, hw⟩; rw [hw]; clear hw w')
      go_ret
      exact ⟨int_eq HB.out.symm, rfl⟩
  · have d1 : (decide (0 ≤ (c : Int) % 8 - 1) && decide ((c : Int) % 8 - 1 ≤ g.wide - 1)) = false := by simp; omega
    have HB : Hid (bes g c 3 = -1) := Lib.hid (by unfold bes besIn besX besY; simp; omega)
    clear hx
    go_enter Tryz.func167, Tryz.ntmps167
    go_wp2_with (go_at_call 123; refine (l00In_any _ _ _ _).mono ?_; rw [d1]; rintro e w' ⟨rfl, hw⟩; rw [hw]; clear hw w')
    go_ret
    exact ⟨int_eq HB.out.symm, rfl⟩
theorem l01Beside_any (g : Gr) (b : Nat) (c s : Nat) (hg : g.ok) (hc : c < 64) (hs : s < 4) (w : World) (hb : GAt w b g) :
    Calls Tryz.prog 167 #[.pointer (some ⟨b, 0, none⟩), .int .i64 c, .int .i64 s] w fun e w' => e = .returned (.int .i64 (bes g c s)) ∧ w' = w := by
  match s, hs with
  | 0, _ => exact l01Beside_0 g b c hg hc w hb
  | 1, _ => exact l01Beside_1 g b c hg hc w hb
  | 2, _ => exact l01Beside_2 g b c hg hc w hb
  | 3, _ => exact l01Beside_3 g b c hg hc w hb
end Go.Proofs.YtdnnjahdcabdmaaGreatDoor
