/- The reference's source of choices (l00Src), whatever bytes it reads: what it picks lies within its bounds, and it changes its own block alone. -/
import Derived.Test.YtnfoemgiebplmaaLg
import Derived.Maps.AppendAt
namespace Go.Proofs.Ytnfoemgiebplmaa
open Go.ChangeShapes Go.WideShapes Go.ChangeAt Go.RowKit
set_option linter.unusedVariables false
set_option linter.unusedSimpArgs false
attribute [local irreducible] Calls

/-- The bytes that a slice holds lie below block B. -/
def Bytes (w : World) (B : Nat) (v : Value) (n : Nat) : Prop :=
  ∃ (a : Option Addr) (c : Nat), v = .slice a n c ∧ n ≤ 4096 ∧ ∀ j, j < n → ∃ (r o x : Nat), a = some ⟨r, o, none⟩ ∧ r < B ∧ x < 256 ∧ w.cell? ⟨r, o + j, none⟩ = some (.int .u8 x)
theorem Bytes.move {w w' : World} {B : Nat} {v : Value} {n : Nat} (h : Bytes w B v n) (hh : ∀ r, r < B → w'.heap[r]? = w.heap[r]?) : Bytes w' B v n := by
  obtain ⟨a, c, hv, hn, hc⟩ := h
  refine ⟨a, c, hv, hn, fun j hj => ?_⟩
  obtain ⟨r, o, x, h1, h2, h3, h4⟩ := hc j hj
  exact ⟨r, o, x, h1, h2, h3, (World.cell?_of_block (w := w) (w' := w') (a := ⟨r, o + j, none⟩) (hh r h2)).trans h4⟩
/-- The source at block b has been asked at most k times. -/
def Src (w : World) (b k : Nat) : Prop := ∃ (v : Value) (n i : Nat) (sd : Int), Blk w b #[v, .int .i64 i, .int .u64 sd] 166 ∧ i ≤ k ∧ 0 ≤ sd ∧ sd < 18446744073709551616 ∧ Bytes w b v n
theorem Src.lt {w : World} {b k : Nat} (h : Src w b k) : b < w.heap.size := by obtain ⟨_, _, _, _, h, _⟩ := h; exact h.lt
theorem Src.mono {w : World} {b k k' : Nat} (h : Src w b k) (hk : k ≤ k') : Src w b k' := by
  obtain ⟨v, n, i, sd, h1, h2, h3⟩ := h
  exact ⟨v, n, i, sd, h1, by omega, h3⟩
theorem Src.move {w w' : World} {b k : Nat} (h : Src w b k) (hh : ∀ r, r ≤ b → w'.heap[r]? = w.heap[r]?) : Src w' b k := by
  obtain ⟨v, n, i, sd, h1, h2, h3, h4, h5⟩ := h
  exact ⟨v, n, i, sd, (hh b (Nat.le_refl _)).trans h1, h2, h3, h4, h5.move fun r hr => hh r (by omega)⟩
theorem wrap_u64_bd (z : Int) : 0 ≤ IntKind.u64.wrap z ∧ IntKind.u64.wrap z < 18446744073709551616 := by rw [IntKind.wrap_u64]; omega
/-- What a source gives: a number with P, the source a little later, and nothing else changed. -/
def Gave (w : World) (b k : Nat) (P : Int → Prop) (e : Ending) (w' : World) : Prop := ∃ x : Int, P x ∧ e = .returned (.int .i64 x) ∧ Src w' b k ∧ w.grownBy w' (some b)
theorem and255 (sd : Int) (h0 : 0 ≤ sd) (h1 : sd < 18446744073709551616) : ∃ x : Nat, x < 256 ∧ bits .and .u64 (sd / 1099511627776) 255 = (x : Int) := by
  obtain ⟨a, rfl⟩ : ∃ a : Nat, sd = a := ⟨sd.toNat, by omega⟩
  refine ⟨a / 1099511627776 % 256, Nat.mod_lt _ (by decide), ?_⟩
  exact and_low (a / 1099511627776) 8 (by omega) (by omega)
theorem grown_set (w : World) (b i : Nat) (v : Value) : w.grownBy (w.setCell ⟨b, i, none⟩ v) (some b) := ⟨rfl, rfl, rfl, by simp, fun j hj hne => heap_setCell_other w ⟨b, i, none⟩ j v (fun e => hne (by rw [e]))⟩
theorem grown_drewN (w : World) (q : Nat) (row : Option Nat) : w.grownBy (w.drewN q) row := ⟨rfl, rfl, rfl, Nat.le_refl _, fun _ _ _ => rfl⟩
theorem src_turn {w : World} {b k i n : Nat} {sd : Int} {v : Value} (hB : Blk w b #[v, .int .i64 i, .int .u64 sd] 166) (hik : i ≤ k) (hby : Bytes w b v n) (m q : Nat) (z : Int) :
    Src ((((w.drewN m).setCell ⟨b, 1, none⟩ (.int .i64 ((i : Int) + 1))).setCell ⟨b, 2, none⟩ (.int .u64 (IntKind.u64.wrap z))).drewN q) b (k + 1) ∧ w.grownBy ((((w.drewN m).setCell ⟨b, 1, none⟩ (.int .i64 ((i : Int) + 1))).setCell ⟨b, 2, none⟩ (.int .u64 (IntKind.u64.wrap z))).drewN q) (some b) := by
  have hg : w.grownBy ((((w.drewN m).setCell ⟨b, 1, none⟩ (.int .i64 ((i : Int) + 1))).setCell ⟨b, 2, none⟩ (.int .u64 (IntKind.u64.wrap z))).drewN q) (some b) :=
    (((grown_drewN w m _).trans (grown_set _ b 1 _)).trans (grown_set _ b 2 _)).trans (grown_drewN _ q _)
  refine ⟨⟨v, n, i + 1, IntKind.u64.wrap z, ?_, by omega, (wrap_u64_bd z).1, (wrap_u64_bd z).2, hby.move fun r hr => hg.block r (by have := hB.lt; omega) (fun e => by injection e; omega)⟩, hg⟩
  have h1 := (((hB.drewN m).setCell 1 (.int .i64 ((i : Int) + 1))).setCell 2 (.int .u64 (IntKind.u64.wrap z))).drewN q
  exact h1
set_option maxRecDepth 100000 in
set_option maxHeartbeats 400000 in
theorem next_any (b k : Nat) (hk : k < 1000000) (w : World) (hs : Src w b k) :
    Calls Try.prog 152 #[.pointer (some ⟨b, 0, none⟩)] w (Gave w b (k + 1) fun x => 0 ≤ x ∧ x < 256) := by
  obtain ⟨v, n, i, sd, hB, hik, h0, h1, hby⟩ := hs
  have hby' := hby
  obtain ⟨a, c, rfl, hn, hc⟩ := hby'
  have c0 := hB.cell 0
  have c1 := hB.cell 1
  have c2 := hB.cell 2
  have f1 := hB.free 1
  have f2 := hB.free 2
  simp only [List.getElem?_toArray, List.getElem?_cons_zero, List.getElem?_cons_succ] at c0 c1 c2
  have d0 : (0 : Int) ≤ i := by omega
  by_cases hlt : i < n
  · obtain ⟨r, o, x, rfl, hr, hx, hcx⟩ := hc i hlt
    have d1 : (i : Int) < n := by omega
    have d2 : (i : Int) + 1 ≤ n := by omega
    have hne : r ≠ b := by omega
    clear hc
    go_enter Try.func152, Try.ntmps152
    go_wp2_with fail
    go_quiet (fail)
    go_wp2_with fail
    go_quiet (fail)
    go_wp2_with fail
    go_quiet (fail)
    go_wp2_with fail
    go_ret
    exact ⟨x, ⟨by omega, by omega⟩, rfl, src_turn hB hik hby _ _ _⟩
  · have d1 : ¬ (i : Int) < n := by omega
    have d2 : ¬ (i : Int) + 1 ≤ n := by omega
    clear hc
    go_enter Try.func152, Try.ntmps152
    go_wp2_with fail
    go_quiet (fail)
    go_wp2_with fail
    go_quiet (fail)
    go_wp2_with fail
    go_ret
    refine ⟨_, ?_, rfl, src_turn hB hik hby _ _ _⟩
    obtain ⟨x, hx, he⟩ := and255 _ (wrap_u64_bd (IntKind.u64.wrap (IntKind.u64.wrap (sd * 6364136223846793005)) + 1442695040888963407)).1 (wrap_u64_bd _).2
    rw [he]
    show 0 ≤ wrap64 (x : Int) ∧ wrap64 (x : Int) < 256
    unfold wrap64
    omega

set_option maxRecDepth 100000 in
set_option maxHeartbeats 400000 in
theorem pick_any (b k : Nat) (n : Int) (hk : k + 1 < 1000000) (h1 : 1 ≤ n) (h2 : n ≤ 1099511627776) (w : World) (hs : Src w b k) :
    Calls Try.prog 136 #[.pointer (some ⟨b, 0, none⟩), .int .i64 n] w (Gave w b (k + 2) fun x => 0 ≤ x ∧ x < n) := by
  have hx := next_any b k (by omega) w hs
  by_cases c1 : n ≤ 1
  · clear hx
    go_enter Try.func136, Try.ntmps136
    go_wp2_with fail
    go_ret
    exact ⟨0, ⟨by omega, by omega⟩, rfl, hs.mono (by omega), World.grownBy.refl _ _⟩
  · by_cases c2 : n ≤ 200
    · have c2' : decide (n > 200) = false := by simp; omega
      go_enter Try.func136, Try.ntmps136
      go_wp2_with (go_at_call 152; refine hx.mono ?_; rintro e w1 ⟨x, ⟨x0, x1⟩, rfl, hs1, hg1⟩)
      go_ret
      exact ⟨x % n, ⟨Int.emod_nonneg _ (by omega), Int.emod_lt_of_pos _ (by omega)⟩, rfl, hs1.mono (by omega), hg1⟩
    · have c2' : decide (n > 200) = true := by simp; omega
      have hx2 := fun w1 hs1 => next_any b (k + 1) (by omega) w1 hs1
      go_enter Try.func136, Try.ntmps136
      go_upto_region 5 with (go_at_call 152; refine hx.mono ?_; rintro e w1 ⟨x, ⟨x0, x1⟩, rfl, hs1, hg1⟩)
      go_wp2_with (go_at_call 152; refine (hx2 _ hs1).mono ?_; rintro e w2 ⟨y, ⟨y0, y1⟩, rfl, hs2, hg2⟩)
      go_ret
      exact ⟨(x * 256 + y) % n, ⟨Int.emod_nonneg _ (by omega), Int.emod_lt_of_pos _ (by omega)⟩, rfl, hs2, hg1.trans hg2⟩
/-- The same with a Bool. -/
def GaveB (w : World) (b k : Nat) (e : Ending) (w' : World) : Prop := ∃ x : Bool, e = .returned (.bool x) ∧ Src w' b k ∧ w.grownBy w' (some b)
set_option maxRecDepth 100000 in
set_option maxHeartbeats 400000 in
theorem one_any (b k : Nat) (n : Int) (hk : k + 1 < 1000000) (h1 : 1 ≤ n) (h2 : n ≤ 1099511627776) (w : World) (hs : Src w b k) :
    Calls Try.prog 137 #[.pointer (some ⟨b, 0, none⟩), .int .i64 n] w (GaveB w b (k + 2)) := by
  have hx := pick_any b k n hk h1 h2 w hs
  go_enter Try.func137, Try.ntmps137
  go_wp2_with (go_at_call 136; refine hx.mono ?_; rintro e w1 ⟨x, ⟨x0, x1⟩, rfl, hs1, hg1⟩)
  go_ret
  exact ⟨x == 0, rfl, hs1, hg1⟩
/-- The same with a number of single precision. -/
def GaveF (w : World) (b k : Nat) (P : Nat → Prop) (e : Ending) (w' : World) : Prop := ∃ x : Nat, P x ∧ e = .returned (.float .f32 x) ∧ Src w' b k ∧ w.grownBy w' (some b)
theorem fres_some {op : BinOp} {x y r : Nat} {w : World} (h : floatBits op .f32 x y = some r) : fres op x y w = r := by unfold fres; rw [h]; rfl
theorem fcnt_some {op : BinOp} {x y r : Nat} (h : floatBits op .f32 x y = some r) : fcnt op x y = 0 := by unfold fcnt; rw [h]; rfl
/-- Some quarters. -/
def fewOf (x : Nat) : Nat := (floatBits .quo .f32 (floatOfInt .f32 ((x : Int) - 32)) 1082130432).getD 0
def conOf (x : Nat) : Nat := (floatBits .quo .f32 (floatOfInt .f32 (1 + (x : Int))) 1082130432).getD 0
def headOf (x : Nat) : Nat := (floatBits .add .f32 1092616192 (fewOf x)).getD 0
theorem few_all : ∀ x : Nat, x < 65 → (floatBits .quo .f32 (floatOfInt .f32 ((x : Int) - 32)) 1082130432).isSome = true ∧ (floatBits .add .f32 1092616192 (fewOf x)).isSome = true ∧ plain (fewOf x) = true ∧ plain (headOf x) = true := by
  have h : (List.range 65).all (fun (x : Nat) => (floatBits .quo .f32 (floatOfInt .f32 ((x : Int) - 32)) 1082130432).isSome && (floatBits .add .f32 1092616192 (fewOf x)).isSome && plain (fewOf x) && plain (headOf x)) = true := by kernel_rfl
  intro x hx
  have := List.all_eq_true.1 h x (List.mem_range.2 hx)
  simpa [and_assoc] using this
theorem con_all : ∀ x : Nat, x < 12 → (floatBits .quo .f32 (floatOfInt .f32 (1 + (x : Int))) 1082130432).isSome = true ∧ amount (conOf x) = true := by
  have h : (List.range 12).all (fun (x : Nat) => (floatBits .quo .f32 (floatOfInt .f32 (1 + (x : Int))) 1082130432).isSome && amount (conOf x)) = true := by kernel_rfl
  intro x hx
  have := List.all_eq_true.1 h x (List.mem_range.2 hx)
  simpa using this
theorem few_is {x : Nat} (h : x < 65) : floatBits .quo .f32 (floatOfInt .f32 ((x : Int) - 32)) 1082130432 = some (fewOf x) := by
  obtain ⟨r, hr⟩ := Option.isSome_iff_exists.1 (few_all x h).1
  unfold fewOf; rw [hr]; rfl
theorem head_is {x : Nat} (h : x < 65) : floatBits .add .f32 1092616192 (fewOf x) = some (headOf x) := by
  obtain ⟨r, hr⟩ := Option.isSome_iff_exists.1 (few_all x h).2.1
  unfold headOf; rw [hr]; rfl
theorem con_is {x : Nat} (h : x < 12) : floatBits .quo .f32 (floatOfInt .f32 (1 + (x : Int))) 1082130432 = some (conOf x) := by
  obtain ⟨r, hr⟩ := Option.isSome_iff_exists.1 (con_all x h).1
  unfold conOf; rw [hr]; rfl
theorem float_eq {k : FloatKind} {a b : Nat} (h : a = b) : Ending.returned (.float k a) = Ending.returned (.float k b) := by rw [h]
set_option maxRecDepth 100000 in
set_option maxHeartbeats 400000 in
theorem l01Few_any (b k : Nat) (hk : k + 1 < 1000000) (w : World) (hs : Src w b k) :
    Calls Try.prog 138 #[.pointer (some ⟨b, 0, none⟩)] w (GaveF w b (k + 2) fun r => ∃ x, x < 65 ∧ r = fewOf x) := by
  have hx := pick_any b k 65 hk (by omega) (by omega) w hs
  go_enter Try.func138, Try.ntmps138
  go_wp2_with (go_at_call 136; refine hx.mono ?_; rintro e w1 ⟨x, ⟨x0, x1⟩, rfl, hs1, hg1⟩)
  go_ret
  obtain ⟨m, rfl⟩ : ∃ m : Nat, x = m := ⟨x.toNat, by omega⟩
  have hf := few_is (x := m) (by omega)
  exact ⟨fewOf m, ⟨m, by omega, rfl⟩, float_eq (fres_some hf), by rw [fcnt_some hf]; exact hs1, by rw [fcnt_some hf]; exact hg1⟩
end Go.Proofs.Ytnfoemgiebplmaa
