import Derived.Test.YtdnnjahdcabdmaaGreatDoorMO30
import Derived.Maps.AppendAt
import Derived.Maps.Range
import Derived.Test.YtdnnjahdcabdmaaGreatDoorMO05
/- The reference's source of choices (l00Src), whatever bytes it reads: what it picks lies within its bounds, and it changes its own block alone. -/
namespace Go.Proofs.YtdnnjahdcabdmaaGreatDoor
open Go.ChangeShapes Go.WideShapes Go.ChangeAt Go.RowKit
set_option linter.unusedVariables false
set_option linter.unusedSimpArgs false
attribute [local irreducible] Calls

/-- The bytes that a slice holds lie below block B. -/
def Bytes (w : World) (B : Nat) (v : Value) (n : Nat) : Prop :=
  ∃ (a : Option Addr) (c : Nat), v = .slice a n c ∧ n ≤ 4096 ∧ ∀ j, j < n → ∃ (r o x : Nat), a = some ⟨r, o, none⟩ ∧ r < B ∧ x < 256 ∧ w.cell? ⟨r, o + j, none⟩ = some (.int .u8 x)
theorem Bytes.move {w w' : World} {B : Nat} {v : Value} {n : Nat} (h : Bytes w B v n) (hh : ∀ r, r < B → w'.heap[r]? = w.heap[r]?) : Bytes w' B v n := by
  obtain ⟨a, c, hv, hn, hc⟩ := h
  refine ⟨a, c, hv, hn, fun j hj => ?_⟩
  obtain ⟨r, o, x, h1, h2, h3, h4⟩ := hc j hj
  exact ⟨r, o, x, h1, h2, h3, (World.cell?_of_block (w := w) (w' := w') (a := ⟨r, o + j, none⟩) (hh r h2)).trans h4⟩
/-- The source at block b has been asked at most k times. -/
def Src (w : World) (b k : Nat) : Prop := ∃ (v : Value) (n i : Nat) (sd : Int), Blk w b #[v, .int .i64 i, .int .u64 sd] 149 ∧ i ≤ k ∧ 0 ≤ sd ∧ sd < 18446744073709551616 ∧ Bytes w b v n
theorem Src.lt {w : World} {b k : Nat} (h : Src w b k) : b < w.heap.size := by obtain ⟨_, _, _, _, h, _⟩ := h; exact h.lt
theorem Src.mono {w : World} {b k k' : Nat} (h : Src w b k) (hk : k ≤ k') : Src w b k' := by
  obtain ⟨v, n, i, sd, h1, h2, h3⟩ := h
  exact ⟨v, n, i, sd, h1, by omega, h3⟩
theorem Src.move {w w' : World} {b k : Nat} (h : Src w b k) (hh : ∀ r, r ≤ b → w'.heap[r]? = w.heap[r]?) : Src w' b k := by
  obtain ⟨v, n, i, sd, h1, h2, h3, h4, h5⟩ := h
  exact ⟨v, n, i, sd, (hh b (Nat.le_refl _)).trans h1, h2, h3, h4, h5.move fun r hr => hh r (by omega)⟩
theorem wrap_u64_bd (z : Int) : 0 ≤ IntKind.u64.wrap z ∧ IntKind.u64.wrap z < 18446744073709551616 := by rw [IntKind.wrap_u64]; omega
/-- What a source gives: a number with P, the source a little later, and nothing else changed. -/
def Gave (w : World) (b k : Nat) (P : Int → Prop) (e : Ending) (w' : World) : Prop := ∃ x : Int, P x ∧ e = .returned (.int .i64 x) ∧ Src w' b k ∧ w.grownBy w' (some b)
theorem and255 (sd : Int) (h0 : 0 ≤ sd) (h1 : sd < 18446744073709551616) : ∃ x : Nat, x < 256 ∧ bits .and .u64 (sd / 1099511627776) 255 = (x : Int) := by
  obtain ⟨a, rfl⟩ : ∃ a : Nat, sd = a := ⟨sd.toNat, by omega⟩
  refine ⟨a / 1099511627776 % 256, Nat.mod_lt _ (by decide), ?_⟩
  exact and_low (a / 1099511627776) 8 (by omega) (by omega)
theorem grown_set (w : World) (b i : Nat) (v : Value) : w.grownBy (w.setCell ⟨b, i, none⟩ v) (some b) := ⟨rfl, rfl, rfl, by simp, fun j hj hne => heap_setCell_other w ⟨b, i, none⟩ j v (fun e => hne (by rw [e]))⟩
theorem grown_drewN (w : World) (q : Nat) (row : Option Nat) : w.grownBy (w.drewN q) row := ⟨rfl, rfl, rfl, Nat.le_refl _, fun _ _ _ => rfl⟩
theorem src_turn {w : World} {b k i n : Nat} {sd : Int} {v : Value} (hB : Blk w b #[v, .int .i64 i, .int .u64 sd] 149) (hik : i ≤ k) (hby : Bytes w b v n) (m q : Nat) (z : Int) :
    Src ((((w.drewN m).setCell ⟨b, 1, none⟩ (.int .i64 ((i : Int) + 1))).setCell ⟨b, 2, none⟩ (.int .u64 (IntKind.u64.wrap z))).drewN q) b (k + 1) ∧ w.grownBy ((((w.drewN m).setCell ⟨b, 1, none⟩ (.int .i64 ((i : Int) + 1))).setCell ⟨b, 2, none⟩ (.int .u64 (IntKind.u64.wrap z))).drewN q) (some b) := by
  have hg : w.grownBy ((((w.drewN m).setCell ⟨b, 1, none⟩ (.int .i64 ((i : Int) + 1))).setCell ⟨b, 2, none⟩ (.int .u64 (IntKind.u64.wrap z))).drewN q) (some b) :=
    (((grown_drewN w m _).trans (grown_set _ b 1 _)).trans (grown_set _ b 2 _)).trans (grown_drewN _ q _)
  refine ⟨⟨v, n, i + 1, IntKind.u64.wrap z, ?_, by omega, (wrap_u64_bd z).1, (wrap_u64_bd z).2, hby.move fun r hr => hg.block r (by have := hB.lt; omega) (fun e => by injection e; omega)⟩, hg⟩
  have h1 := (((hB.drewN m).setCell 1 (.int .i64 ((i : Int) + 1))).setCell 2 (.int .u64 (IntKind.u64.wrap z))).drewN q
  exact h1
set_option maxRecDepth 100000 in
set_option maxHeartbeats 400000 in
theorem next_any (b k : Nat) (hk : k < 1000000) (w : World) (hs : Src w b k) :
    Calls Tryz.prog 101 #[.pointer (some ⟨b, 0, none⟩)] w (Gave w b (k + 1) fun x => 0 ≤ x ∧ x < 256) := by
  obtain ⟨v, n, i, sd, hB, hik, h0, h1, hby⟩ := hs
  have hby' := hby
  obtain ⟨a, c, rfl, hn, hc⟩ := hby'
  have c0 := hB.cell 0
  have c1 := hB.cell 1
  have c2 := hB.cell 2
  have f1 := hB.free 1
  have f2 := hB.free 2
  simp only [List.getElem?_toArray, List.getElem?_cons_zero, List.getElem?_cons_succ] at c0 c1 c2
  have d0 : (0 : Int) ≤ i := by omega
  by_cases hlt : i < n
  · obtain ⟨r, o, x, rfl, hr, hx, hcx⟩ := hc i hlt
    have d1 : (i : Int) < n := by omega
    have d2 : (i : Int) + 1 ≤ n := by omega
    have hne : r ≠ b := by omega
    clear hc
    go_enter Tryz.func101, Tryz.ntmps101
    go_wp2_with fail
    go_quiet (fail)
    go_wp2_with fail
    go_quiet (fail)
    go_wp2_with fail
    go_quiet (fail)
    go_wp2_with fail
    go_ret
    exact ⟨x, ⟨by omega, by omega⟩, rfl, src_turn hB hik hby _ _ _⟩
  · have d1 : ¬ (i : Int) < n := by omega
    have d2 : ¬ (i : Int) + 1 ≤ n := by omega
    clear hc
    go_enter Tryz.func101, Tryz.ntmps101
    go_wp2_with fail
    go_quiet (fail)
    go_wp2_with fail
    go_quiet (fail)
    go_wp2_with fail
    go_ret
    refine ⟨_, ?_, rfl, src_turn hB hik hby _ _ _⟩
    obtain ⟨x, hx, he⟩ := and255 _ (wrap_u64_bd (IntKind.u64.wrap (IntKind.u64.wrap (sd * 6364136223846793005)) + 1442695040888963407)).1 (wrap_u64_bd _).2
    rw [he]
    show 0 ≤ wrap64 (x : Int) ∧ wrap64 (x : Int) < 256
    unfold wrap64
    omega

set_option maxRecDepth 100000 in
set_option maxHeartbeats 400000 in
theorem pick_any (b k : Nat) (n : Int) (hk : k + 1 < 1000000) (h1 : 1 ≤ n) (h2 : n ≤ 1099511627776) (w : World) (hs : Src w b k) :
    Calls Tryz.prog 44 #[.pointer (some ⟨b, 0, none⟩), .int .i64 n] w (Gave w b (k + 2) fun x => 0 ≤ x ∧ x < n) := by
  have hx := next_any b k (by omega) w hs
  by_cases c1 : n ≤ 1
  · clear hx
    go_enter Tryz.func44, Tryz.ntmps44
    go_wp2_with fail
    go_ret
    exact ⟨0, ⟨by omega, by omega⟩, rfl, hs.mono (by omega), World.grownBy.refl _ _⟩
  · by_cases c2 : n ≤ 200
    · have c2' : decide (n > 200) = false := by simp; omega
      go_enter Tryz.func44, Tryz.ntmps44
      go_wp2_with (go_at_call 101; refine hx.mono ?_; rintro e w1 ⟨x, ⟨x0, x1⟩, rfl, hs1, hg1⟩)
      go_ret
      exact ⟨x % n, ⟨Int.emod_nonneg _ (by omega), Int.emod_lt_of_pos _ (by omega)⟩, rfl, hs1.mono (by omega), hg1⟩
    · have c2' : decide (n > 200) = true := by simp; omega
      have hx2 := fun w1 hs1 => next_any b (k + 1) (by omega) w1 hs1
      go_enter Tryz.func44, Tryz.ntmps44
      go_upto_region 5 with (go_at_call 101; refine hx.mono ?_; rintro e w1 ⟨x, ⟨x0, x1⟩, rfl, hs1, hg1⟩)
      go_wp2_with (go_at_call 101; refine (hx2 _ hs1).mono ?_; rintro e w2 ⟨y, ⟨y0, y1⟩, rfl, hs2, hg2⟩)
      go_ret
      exact ⟨(x * 256 + y) % n, ⟨Int.emod_nonneg _ (by omega), Int.emod_lt_of_pos _ (by omega)⟩, rfl, hs2, hg1.trans hg2⟩
/-- The same with a Bool. -/
def GaveB (w : World) (b k : Nat) (e : Ending) (w' : World) : Prop := ∃ x : Bool, e = .returned (.bool x) ∧ Src w' b k ∧ w.grownBy w' (some b)
set_option maxRecDepth 100000 in
set_option maxHeartbeats 400000 in
theorem one_any (b k : Nat) (n : Int) (hk : k + 1 < 1000000) (h1 : 1 ≤ n) (h2 : n ≤ 1099511627776) (w : World) (hs : Src w b k) :
    Calls Tryz.prog 117 #[.pointer (some ⟨b, 0, none⟩), .int .i64 n] w (GaveB w b (k + 2)) := by
  have hx := pick_any b k n hk h1 h2 w hs
  go_enter Tryz.func117, Tryz.ntmps117
  go_wp2_with (go_at_call 44; refine hx.mono ?_; rintro e w1 ⟨x, ⟨x0, x1⟩, rfl, hs1, hg1⟩)
  go_ret
  exact ⟨x == 0, rfl, hs1, hg1⟩
/-- The same with a number of single precision. -/
def GaveF (w : World) (b k : Nat) (P : Nat → Prop) (e : Ending) (w' : World) : Prop := ∃ x : Nat, P x ∧ e = .returned (.float .f32 x) ∧ Src w' b k ∧ w.grownBy w' (some b)
theorem fres_some {op : BinOp} {x y r : Nat} {w : World} (h : floatBits op .f32 x y = some r) : fres op x y w = r := by unfold fres; rw [h]; rfl
theorem fcnt_some {op : BinOp} {x y r : Nat} (h : floatBits op .f32 x y = some r) : fcnt op x y = 0 := by unfold fcnt; rw [h]; rfl
/-- Some quarters. -/
def fewOf (x : Nat) : Nat := (floatBits .quo .f32 (floatOfInt .f32 ((x : Int) - 32)) 1082130432).getD 0
def conOf (x : Nat) : Nat := (floatBits .quo .f32 (floatOfInt .f32 (1 + (x : Int))) 1082130432).getD 0
def headOf (x : Nat) : Nat := (floatBits .add .f32 1092616192 (fewOf x)).getD 0
theorem few_all : ∀ x : Nat, x < 65 → (floatBits .quo .f32 (floatOfInt .f32 ((x : Int) - 32)) 1082130432).isSome = true ∧ (floatBits .add .f32 1092616192 (fewOf x)).isSome = true ∧ plain (fewOf x) = true ∧ plain (headOf x) = true := by
  have h : (List.range 65).all (fun (x : Nat) => (floatBits .quo .f32 (floatOfInt .f32 ((x : Int) - 32)) 1082130432).isSome && (floatBits .add .f32 1092616192 (fewOf x)).isSome && plain (fewOf x) && plain (headOf x)) = true := by kernel_rfl
  intro x hx
  have := List.all_eq_true.1 h x (List.mem_range.2 hx)
  simpa [and_assoc] using this
theorem con_all : ∀ x : Nat, x < 12 → (floatBits .quo .f32 (floatOfInt .f32 (1 + (x : Int))) 1082130432).isSome = true ∧ amount (conOf x) = true := by
  have h : (List.range 12).all (fun (x : Nat) => (floatBits .quo .f32 (floatOfInt .f32 (1 + (x : Int))) 1082130432).isSome && amount (conOf x)) = true := by kernel_rfl
  intro x hx
  have := List.all_eq_true.1 h x (List.mem_range.2 hx)
  simpa using this
theorem few_is {x : Nat} (h : x < 65) : floatBits .quo .f32 (floatOfInt .f32 ((x : Int) - 32)) 1082130432 = some (fewOf x) := by
  obtain ⟨r, hr⟩ := Option.isSome_iff_exists.1 (few_all x h).1
  unfold fewOf; rw [hr]; rfl
theorem head_is {x : Nat} (h : x < 65) : floatBits .add .f32 1092616192 (fewOf x) = some (headOf x) := by
  obtain ⟨r, hr⟩ := Option.isSome_iff_exists.1 (few_all x h).2.1
  unfold headOf; rw [hr]; rfl
theorem con_is {x : Nat} (h : x < 12) : floatBits .quo .f32 (floatOfInt .f32 (1 + (x : Int))) 1082130432 = some (conOf x) := by
  obtain ⟨r, hr⟩ := Option.isSome_iff_exists.1 (con_all x h).1
  unfold conOf; rw [hr]; rfl
theorem float_eq {k : FloatKind} {a b : Nat} (h : a = b) : Ending.returned (.float k a) = Ending.returned (.float k b) := by rw [h]
set_option maxRecDepth 100000 in
set_option maxHeartbeats 400000 in
theorem l01Few_any (b k : Nat) (hk : k + 1 < 1000000) (w : World) (hs : Src w b k) :
    Calls Tryz.prog 118 #[.pointer (some ⟨b, 0, none⟩)] w (GaveF w b (k + 2) fun r => ∃ x, x < 65 ∧ r = fewOf x) := by
  have hx := pick_any b k 65 hk (by omega) (by omega) w hs
  go_enter Tryz.func118, Tryz.ntmps118
  go_wp2_with (go_at_call 44; refine hx.mono ?_; rintro e w1 ⟨x, ⟨x0, x1⟩, rfl, hs1, hg1⟩)
  go_ret
  obtain ⟨m, rfl⟩ : ∃ m : Nat, x = m := ⟨x.toNat, by omega⟩
  have hf := few_is (x := m) (by omega)
  exact ⟨fewOf m, ⟨m, by omega, rfl⟩, float_eq (fres_some hf), by rw [fcnt_some hf]; exact hs1, by rw [fcnt_some hf]; exact hg1⟩
end Go.Proofs.YtdnnjahdcabdmaaGreatDoor
/- Grounds that the reference draws (l01Drawn, A2Ground): all are valid. -/
namespace Go.Proofs.YtdnnjahdcabdmaaGreatDoor
open Go.ChangeShapes Go.WideShapes Go.ChangeAt Go.RowKit
set_option linter.unusedVariables false
set_option linter.unusedSimpArgs false

/-! ### Bits among bits. -/
def bv (z : Int) : BitVec 64 := BitVec.ofInt 64 z
theorem bv_nat (x : BitVec 64) : bv (x.toNat : Int) = x := by unfold bv; simp
theorem bits_eq (op : BinOp) (f : BitVec 64 → BitVec 64 → BitVec 64) (a b : Int) (h : bits op .u64 a b = IntKind.u64.wrap ((f (bv a) (bv b)).toNat : Int)) : bits op .u64 a b = ((f (bv a) (bv b)).toNat : Int) := by
  rw [h, IntKind.wrap_u64]
  have := (f (bv a) (bv b)).isLt
  simp only [Nat.reducePow] at this
  omega
theorem orB_bv (x : Int) (k : Nat) : orB x k = ((bv x ||| bv (IntKind.u64.wrap (2 ^ k))).toNat : Int) := by
  unfold orB; exact bits_eq .or (· ||| ·) _ _ rfl
theorem andNot_bv (x y : Int) : bits .andNot .u64 x y = ((bv x &&& ~~~ bv y).toNat : Int) := bits_eq .andNot (fun x y => x &&& ~~~ y) _ _ rfl
theorem andNot_zero {x y : Int} : (bits .andNot .u64 x y == 0) = true ↔ bv x &&& ~~~ bv y = 0#64 := by
  rw [andNot_bv, beq_iff_eq]
  constructor
  · intro h; apply BitVec.eq_of_toNat_eq; simp only [BitVec.toNat_ofNat]; omega
  · intro h; rw [h]; rfl
theorem lsb_and {x m : BitVec 64} (h : x &&& ~~~ m = 0#64) (i : Nat) (hi : i < 64) : (x.getLsbD i && !m.getLsbD i) = false := by
  have h1 : (x &&& ~~~ m).getLsbD i = (0#64).getLsbD i := by rw [h]
  rw [BitVec.getLsbD_and, BitVec.getLsbD_not, decide_eq_true hi, Bool.true_and, BitVec.getLsbD_zero] at h1
  exact h1
theorem and_lsb {x m : BitVec 64} (h : ∀ i, i < 64 → (x.getLsbD i && !m.getLsbD i) = false) : x &&& ~~~ m = 0#64 := by
  apply BitVec.eq_of_getLsbD_eq
  intro i hi
  rw [BitVec.getLsbD_and, BitVec.getLsbD_not, decide_eq_true hi, Bool.true_and, BitVec.getLsbD_zero]
  exact h i hi
theorem and_or (x p m : BitVec 64) (h : x &&& ~~~ m = 0#64) (h' : p &&& ~~~ m = 0#64) : (x ||| p) &&& ~~~ m = 0#64 := and_lsb fun i hi => by
  have h1 := lsb_and h i hi
  have h2 := lsb_and h' i hi
  rw [BitVec.getLsbD_or]
  generalize x.getLsbD i = a at *
  generalize p.getLsbD i = b at *
  generalize m.getLsbD i = c at *
  revert h1 h2
  cases a <;> cases b <;> cases c <;> decide
theorem and_more (p m q : BitVec 64) (h : p &&& ~~~ m = 0#64) : p &&& ~~~ (m ||| q) = 0#64 := and_lsb fun i hi => by
  have h1 := lsb_and h i hi
  rw [BitVec.getLsbD_or]
  generalize p.getLsbD i = a at *
  generalize m.getLsbD i = b at *
  generalize q.getLsbD i = c at *
  revert h1
  cases a <;> cases b <;> cases c <;> decide
theorem and_self_not (p m : BitVec 64) : p &&& ~~~ (m ||| p) = 0#64 := and_lsb fun i hi => by
  rw [BitVec.getLsbD_or]
  generalize p.getLsbD i = a at *
  generalize m.getLsbD i = b at *
  cases a <;> cases b <;> decide
theorem fold_has (k : Nat) : ∀ (L : List Nat) (x : Int), (k ∈ L ∨ bv (IntKind.u64.wrap (2 ^ k)) &&& ~~~ bv x = 0#64) → bv (IntKind.u64.wrap (2 ^ k)) &&& ~~~ bv (L.foldl orB x) = 0#64
  | [], x, h => by rcases h with h | h; · cases h
                   · exact h
  | j :: L, x, h => by
    refine fold_has k L (orB x j) ?_
    rw [orB_bv, bv_nat]
    rcases h with h | h
    · rcases List.mem_cons.1 h with h | h
      · subst h; exact .inr (and_self_not _ _)
      · exact .inl h
    · exact .inr (and_more _ _ _ h)
theorem mask_has {L : List Nat} {k : Nat} (h : k ∈ L) : bv (IntKind.u64.wrap (2 ^ k)) &&& ~~~ bv (maskOf L) = 0#64 := fold_has k L 0 (.inl h)
theorem or_in {x : Int} {L : List Nat} {k : Nat} (h : (bits .andNot .u64 x (maskOf L) == 0) = true) (hk : k ∈ L) : (bits .andNot .u64 (orB x k) (maskOf L) == 0) = true := by
  rw [andNot_zero] at h ⊢
  rw [orB_bv, bv_nat]
  exact and_or _ _ _ h (mask_has hk)
theorem orB_bd (x : Int) (k : Nat) : 0 ≤ orB x k ∧ orB x k < 18446744073709551616 := by
  rw [orB_bv]
  have := (bv x ||| bv (IntKind.u64.wrap (2 ^ k))).isLt
  simp only [Nat.reducePow] at this
  omega
/-! ### A ground that is being drawn: up to cell k. -/
structure Drawn (W H : Int) (k : Nat) (G : Gr) : Prop where
  wide : G.wide = W
  high : G.high = H
  con : ∀ i, i < 64 → G.con i = 0 ∨ (isC G i = true ∧ ∃ x, x < 12 ∧ G.con i = conOf x)
  gai : ∀ i, i < 64 → G.gai i = 0 ∨ (isC G i = true ∧ ∃ x, x < 65 ∧ G.gai i = fewOf x)
  hea : ∀ i, i < 64 → (isC G i = false → G.hea i = 0) ∧ (i < k → isC G i = true → ∃ x, x < 65 ∧ G.hea i = headOf x)
  fix : (0 ≤ G.fix ∧ G.fix < 18446744073709551616) ∧ (bits .andNot .u64 G.fix (maskOf (cellsTo G 64)) == 0) = true
theorem upd_same (f : Nat → Nat) (k x : Nat) : upd f k x k = x := by unfold upd; rw [if_pos rfl]
theorem upd_ne (f : Nat → Nat) (k x i : Nat) (h : i ≠ k) : upd f k x i = f i := by unfold upd; rw [if_neg h]
section
variable {W H : Int} {k : Nat} {G : Gr}
theorem Drawn.skip (h : Drawn W H k G) (hc : isC G k = false) : Drawn W H (k + 1) G :=
  { h with hea := fun i hi => ⟨(h.hea i hi).1, fun hk hc' => (h.hea i hi).2 (by
      by_cases e : i = k
      · subst e; rw [hc] at hc'; cases hc'
      · omega) hc'⟩ }
theorem Drawn.setC (h : Drawn W H k G) (j c : Nat) (hj : isC G j = true) (hc : c = 0 ∨ ∃ x, x < 12 ∧ c = conOf x) : Drawn W H k { G with con := upd G.con j c } :=
  { wide := h.wide, high := h.high, gai := h.gai, hea := h.hea, fix := h.fix,
    con := fun i hi => by
      show upd G.con j c i = 0 ∨ (isC G i = true ∧ ∃ x, x < 12 ∧ upd G.con j c i = conOf x)
      by_cases e : i = j
      · subst e; rw [upd_same]
        rcases hc with hc | hc
        · exact .inl hc
        · exact .inr ⟨hj, hc⟩
      · rw [upd_ne _ _ _ _ e]; exact h.con i hi }
theorem Drawn.setG (h : Drawn W H k G) (j c : Nat) (hj : isC G j = true) (hc : ∃ x, x < 65 ∧ c = fewOf x) : Drawn W H k { G with gai := upd G.gai j c } :=
  { wide := h.wide, high := h.high, con := h.con, hea := h.hea, fix := h.fix,
    gai := fun i hi => by
      show upd G.gai j c i = 0 ∨ (isC G i = true ∧ ∃ x, x < 65 ∧ upd G.gai j c i = fewOf x)
      by_cases e : i = j
      · subst e; rw [upd_same]; exact .inr ⟨hj, hc⟩
      · rw [upd_ne _ _ _ _ e]; exact h.gai i hi }
theorem Drawn.setH (h : Drawn W H k G) (c : Nat) (hk : isC G k = true) (hc : ∃ x, x < 65 ∧ c = headOf x) : Drawn W H (k + 1) { G with hea := upd G.hea k c } :=
  { wide := h.wide, high := h.high, con := h.con, gai := h.gai, fix := h.fix,
    hea := fun i hi => by
      show (isC G i = false → upd G.hea k c i = 0) ∧ (i < k + 1 → isC G i = true → ∃ x, x < 65 ∧ upd G.hea k c i = headOf x)
      by_cases e : i = k
      · subst e; rw [upd_same]; exact ⟨(fun h0 => by rw [hk] at h0; cases h0), fun _ _ => hc⟩
      · rw [upd_ne _ _ _ _ e]; exact ⟨(h.hea i hi).1, fun hi' => (h.hea i hi).2 (by omega)⟩ }
theorem Drawn.setF (h : Drawn W H k G) (j : Nat) (hj : j < 64) (hc : isC G j = true) : Drawn W H k { G with fix := orB G.fix j } :=
  { wide := h.wide, high := h.high, con := h.con, gai := h.gai, hea := h.hea,
    fix := ⟨orB_bd _ _, or_in h.fix.2 (cellsTo_mem.2 ⟨hj, hc⟩)⟩ }
theorem Drawn.ok (h : Drawn W H k G) (hW : 2 ≤ W ∧ W ≤ 4) (hH : 2 ≤ H ∧ H ≤ 4) : G.ok := ⟨by rw [h.wide]; omega, by rw [h.high]; omega, h.fix.1⟩
end
/-- A drawn ground. -/
structure IsDrawn (G : Gr) : Prop where
  ok : G.ok
  valid : validG G = true
  hea : ∀ i, i < 64 → isC G i = true → ∃ x, x < 65 ∧ G.hea i = headOf x
  small : G.wide ≤ 4 ∧ G.high ≤ 4
  con : ∀ i, i < 64 → G.con i = 0 ∨ (isC G i = true ∧ ∃ x, x < 12 ∧ G.con i = conOf x)
  gai : ∀ i, i < 64 → G.gai i = 0 ∨ (isC G i = true ∧ ∃ x, x < 65 ∧ G.gai i = fewOf x)
  off : ∀ i, i < 64 → isC G i = false → G.hea i = 0
theorem field_of {q : Nat → Bool} {G : Gr} {f : Nat → Nat} (h : ∀ i, i < 64 → (isC G i = true → q (f i) = true) ∧ (isC G i = false → f i = 0)) : fieldIs q G f = true := by
  unfold fieldIs
  rw [Bool.not_eq_true', anyTo_false]
  intro i hi
  unfold badAt
  obtain ⟨h1, h2⟩ := h i hi
  cases hc : isC G i
  · rw [if_neg (by decide), h2 hc]; kernel_rfl
  · rw [if_pos rfl, h1 hc]; rfl
theorem amount_zero : amount 0 = true := by kernel_rfl
theorem plain_zero : plain 0 = true := by kernel_rfl
theorem Drawn.done {W H : Int} {G : Gr} (h : Drawn W H 64 G) (hW : 2 ≤ W ∧ W ≤ 4) (hH : 2 ≤ H ∧ H ≤ 4) (hf : (G.fix == 0) = false) : IsDrawn G := by
  refine ⟨h.ok hW hH, ?_, fun i hi => (h.hea i hi).2 hi, by rw [h.wide, h.high]; omega, h.con, h.gai, fun i hi hc => (h.hea i hi).1 hc⟩
  unfold validG
  have e1 : (decide (2 ≤ G.wide) && decide (G.wide ≤ 8)) = true := by rw [h.wide]; simp; omega
  have e2 : (decide (2 ≤ G.high) && decide (G.high ≤ 8)) = true := by rw [h.high]; simp; omega
  have e3 : fieldIs amount G G.con = true := field_of fun i hi => by
    rcases h.con i hi with h0 | ⟨hc, x, hx, h0⟩
    · rw [h0]; exact ⟨fun _ => amount_zero, fun _ => rfl⟩
    · rw [h0]; exact ⟨fun _ => (con_all x hx).2, fun hn => by rw [hc] at hn; cases hn⟩
  have e4 : fieldIs plain G G.gai = true := field_of fun i hi => by
    rcases h.gai i hi with h0 | ⟨hc, x, hx, h0⟩
    · rw [h0]; exact ⟨fun _ => plain_zero, fun _ => rfl⟩
    · rw [h0]; exact ⟨fun _ => (few_all x hx).2.2.1, fun hn => by rw [hc] at hn; cases hn⟩
  have e5 : fieldIs plain G G.hea = true := field_of fun i hi => ⟨fun hc => by
    obtain ⟨x, hx, h0⟩ := (h.hea i hi).2 hi hc
    rw [h0]; exact (few_all x hx).2.2.2, (h.hea i hi).1⟩
  have e6 : fixOk G = true := by
    unfold fixOk
    have : (G.fix != 0) = true := by unfold bne; rw [hf]; rfl
    rw [this, h.fix.2]; rfl
  rw [e1, e2, e3, e4, e5, e6]; rfl
end Go.Proofs.YtdnnjahdcabdmaaGreatDoor
/- Stores into a ground's cells, one by one. -/
namespace Go.Proofs.YtdnnjahdcabdmaaGreatDoor
open Go.ChangeShapes Go.WideShapes Go.ChangeAt Go.RowKit
set_option linter.unusedVariables false
set_option linter.unusedSimpArgs false

/-- A store into one cell of a block: the world behind it by what it holds. -/
theorem wpList_store_abs {P : Program} {ops : Array Oper} {rest : List Oper} {o : Oper} {a : Act} {Q : Exit → Act → World → Prop} {w : World} {ty t : TypeId} {x y : Operand} {b f : Nat} {v : Value} {C : Array Value} (hgd : o.guard = none) (ho : o.op = .store ty x y) (hx : a.eval x = .pointer (some ⟨b, f, none⟩)) (hy : a.eval y = v) (hi : (P.info? ty).map (·.size) = some 1) (hv : v.cells = #[v]) (h1 : v.oneCell' = true) (hb : Blk w b C t) (hf : f < C.size)
    (h : ∀ W, Blk W b (C.setIfInBounds f v) t → w.grownBy W (some b) → wpList P ops Q rest (a.put o.dst undef) W) : wpList P ops Q (o :: rest) a w :=
  wpList_plain hgd fun K hK => by
    have hst := run_storeCells_at P b f t [v] 0 C w hb (by simp; omega) (by simpa using h1)
    unfold Oper.wp execOp
    cases hq : P.info? ty with
    | none => simp [hq] at hi
    | some i =>
      have hsz : i.size = 1 := by simpa [hq] using hi
      simp only [ho, hx, hy, Instr.storeAt, Instr.sureAddr, Sem.run_bind, Sem.run_pure, Result.andThen_ok]
      obtain ⟨W, hW, hB, hG⟩ : ∃ W, (storeVar ty ⟨b, f, none⟩ v).run P w = .ok () W ∧ Blk W b (C.setIfInBounds f v) t ∧ w.grownBy W (some b) := by
        refine ⟨w.setRow b (splice C f #[v]), ?_, ?_, ?_⟩
        · have hst' : (storeCells ⟨b, f, none⟩ [v] 0).run P w = .ok () (w.setRow b (splice C f #[v])) := by simpa [splice] using hst
          simp [storeVar, sizeOf, typeInfo, hq, hv, hsz, hst']
        · have := hb.setRow (splice C f #[v])
          have e : splice C f #[v] = C.setIfInBounds f v := by
            unfold splice
            apply Array.ext'
            simp only [Array.toList_setIfInBounds]
            rw [List.set_eq_take_append_cons_drop, if_pos (by simpa using hf)]
            simp
          rw [e] at this ⊢
          exact this
        · exact ⟨rfl, rfl, rfl, by simp, fun j hj hne => setRow_other w b j _ (fun e => hne (by rw [e]))⟩
      rw [hW]
      exact hK _ _ (h W hB hG)
def zeroGr : Gr := ⟨0, 0, fun _ => 0, fun _ => 0, fun _ => 0, 0⟩
theorem zeroCells_gr : Tryz.zeroCells30 = zeroGr.cells := by unfold zeroGr Gr.cells; kernel_rfl
theorem builtGr (x y : Int) : (Tryz.zeroCells30.setIfInBounds 0 (.int .i8 x)).setIfInBounds 1 (.int .i8 y) = (⟨x, y, fun _ => 0, fun _ => 0, fun _ => 0, 0⟩ : Gr).cells := by
  rw [zeroCells_gr, Gr.set0, Gr.set1]; rfl
theorem Gr.putC (g : Gr) (k b : Nat) (hk : k < 64) : g.cells.setIfInBounds (2 + k) (.float .f32 b) = ({ g with con := upd g.con k b } : Gr).cells := by
  refine Gr.cells_of _ (by simp [g.size]) fun i hi => ?_
  rw [Array.getElem?_setIfInBounds]
  by_cases h : 2 + k = i
  · rw [if_pos h, if_pos (by rw [g.size]; omega)]
    subst h
    unfold Gr.at upd
    simp only [show ¬ (2 + k = 0) by omega, show ¬ (2 + k = 1) by omega, show 2 + k < 66 by omega, if_true, if_false, show 2 + k - 2 = k by omega]
  · rw [if_neg h, g.get i hi]
    congr 1
    unfold Gr.at upd
    by_cases i0 : i = 0
    · simp only [i0, if_true]
    · by_cases i1 : i = 1
      · simp only [i1]; rfl
      · by_cases i2 : i < 66
        · simp only [i0, i1, i2, if_true, if_false, show ¬ (i - 2 = k) by omega]
        · simp only [i0, i1, i2, if_false]
theorem Gr.putG (g : Gr) (k b : Nat) (hk : k < 64) : g.cells.setIfInBounds (66 + k) (.float .f32 b) = ({ g with gai := upd g.gai k b } : Gr).cells := by
  refine Gr.cells_of _ (by simp [g.size]) fun i hi => ?_
  rw [Array.getElem?_setIfInBounds]
  by_cases h : 66 + k = i
  · rw [if_pos h, if_pos (by rw [g.size]; omega)]
    subst h
    unfold Gr.at upd
    simp only [show ¬ (66 + k = 0) by omega, show ¬ (66 + k = 1) by omega, show ¬ (66 + k < 66) by omega, show 66 + k < 130 by omega, if_true, if_false, show 66 + k - 66 = k by omega]
  · rw [if_neg h, g.get i hi]
    congr 1
    unfold Gr.at upd
    by_cases i0 : i = 0
    · simp only [i0, if_true]
    · by_cases i1 : i = 1
      · simp only [i1]; rfl
      · by_cases i2 : i < 66
        · simp only [i0, i1, i2, if_true, if_false]
        · by_cases i3 : i < 130
          · simp only [i0, i1, i2, i3, if_true, if_false, show ¬ (i - 66 = k) by omega]
          · simp only [i0, i1, i2, i3, if_false]
theorem szF32 : (Tryz.prog.info? 25).map (·.size) = some 1 := by kernel_rfl
theorem szU64 : (Tryz.prog.info? 28).map (·.size) = some 1 := by kernel_rfl
end Go.Proofs.YtdnnjahdcabdmaaGreatDoor
