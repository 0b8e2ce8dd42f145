import Derived.Test.YtglimhkpndfjgaaMT07
import Derived.Maps.AppendAt
import Derived.Maps.Range
import Derived.Test.YtglimhkpndfjgaaMT05
import Derived.Test.YtglimhkpndfjgaaMT06
/- The reference's source of choices (l00Src), whatever bytes it reads: what it picks lies within its bounds, and it changes its own block alone. -/
namespace Go.Proofs.Ytglimhkpndfjgaa
open Go.ChangeShapes Go.WideShapes Go.ChangeAt Go.RowKit
set_option linter.unusedVariables false
set_option linter.unusedSimpArgs false
attribute [local irreducible] Calls

/-- The bytes that a slice holds lie below block B. -/
def Bytes (w : World) (B : Nat) (v : Value) (n : Nat) : Prop :=
  ∃ (a : Option Addr) (c : Nat), v = .slice a n c ∧ n ≤ 4096 ∧ ∀ j, j < n → ∃ (r o x : Nat), a = some ⟨r, o, none⟩ ∧ r < B ∧ x < 256 ∧ w.cell? ⟨r, o + j, none⟩ = some (.int .u8 x)
theorem Bytes.move {w w' : World} {B : Nat} {v : Value} {n : Nat} (h : Bytes w B v n) (hh : ∀ r, r < B → w'.heap[r]? = w.heap[r]?) : Bytes w' B v n := by
  obtain ⟨a, c, hv, hn, hc⟩ := h
  refine ⟨a, c, hv, hn, fun j hj => ?_⟩
  obtain ⟨r, o, x, h1, h2, h3, h4⟩ := hc j hj
  exact ⟨r, o, x, h1, h2, h3, (World.cell?_of_block (w := w) (w' := w') (a := ⟨r, o + j, none⟩) (hh r h2)).trans h4⟩
/-- The source at block b has been asked at most k times. -/
def Src (w : World) (b k : Nat) : Prop := ∃ (v : Value) (n i : Nat) (sd : Int), Blk w b #[v, .int .i64 i, .int .u64 sd] 90 ∧ i ≤ k ∧ 0 ≤ sd ∧ sd < 18446744073709551616 ∧ Bytes w b v n
theorem Src.lt {w : World} {b k : Nat} (h : Src w b k) : b < w.heap.size := by obtain ⟨_, _, _, _, h, _⟩ := h; exact h.lt
theorem Src.mono {w : World} {b k k' : Nat} (h : Src w b k) (hk : k ≤ k') : Src w b k' := by
  obtain ⟨v, n, i, sd, h1, h2, h3⟩ := h
  exact ⟨v, n, i, sd, h1, by omega, h3⟩
theorem Src.move {w w' : World} {b k : Nat} (h : Src w b k) (hh : ∀ r, r ≤ b → w'.heap[r]? = w.heap[r]?) : Src w' b k := by
  obtain ⟨v, n, i, sd, h1, h2, h3, h4, h5⟩ := h
  exact ⟨v, n, i, sd, (hh b (Nat.le_refl _)).trans h1, h2, h3, h4, h5.move fun r hr => hh r (by omega)⟩
theorem wrap_u64_bd (z : Int) : 0 ≤ IntKind.u64.wrap z ∧ IntKind.u64.wrap z < 18446744073709551616 := by rw [IntKind.wrap_u64]; omega
/-- What a source gives: a number with P, the source a little later, and nothing else changed. -/
def Gave (w : World) (b k : Nat) (P : Int → Prop) (e : Ending) (w' : World) : Prop := ∃ x : Int, P x ∧ e = .returned (.int .i64 x) ∧ Src w' b k ∧ w.grownBy w' (some b)
theorem and255 (sd : Int) (h0 : 0 ≤ sd) (h1 : sd < 18446744073709551616) : ∃ x : Nat, x < 256 ∧ bits .and .u64 (sd / 1099511627776) 255 = (x : Int) := by
  obtain ⟨a, rfl⟩ : ∃ a : Nat, sd = a := ⟨sd.toNat, by omega⟩
  refine ⟨a / 1099511627776 % 256, Nat.mod_lt _ (by decide), ?_⟩
  exact and_low (a / 1099511627776) 8 (by omega) (by omega)
theorem grown_set (w : World) (b i : Nat) (v : Value) : w.grownBy (w.setCell ⟨b, i, none⟩ v) (some b) := ⟨rfl, rfl, rfl, by simp, fun j hj hne => heap_setCell_other w ⟨b, i, none⟩ j v (fun e => hne (by rw [e]))⟩
theorem grown_drewN (w : World) (q : Nat) (row : Option Nat) : w.grownBy (w.drewN q) row := ⟨rfl, rfl, rfl, Nat.le_refl _, fun _ _ _ => rfl⟩
theorem src_turn {w : World} {b k i n : Nat} {sd : Int} {v : Value} (hB : Blk w b #[v, .int .i64 i, .int .u64 sd] 90) (hik : i ≤ k) (hby : Bytes w b v n) (m q : Nat) (z : Int) :
    Src ((((w.drewN m).setCell ⟨b, 1, none⟩ (.int .i64 ((i : Int) + 1))).setCell ⟨b, 2, none⟩ (.int .u64 (IntKind.u64.wrap z))).drewN q) b (k + 1) ∧ w.grownBy ((((w.drewN m).setCell ⟨b, 1, none⟩ (.int .i64 ((i : Int) + 1))).setCell ⟨b, 2, none⟩ (.int .u64 (IntKind.u64.wrap z))).drewN q) (some b) := by
  have hg : w.grownBy ((((w.drewN m).setCell ⟨b, 1, none⟩ (.int .i64 ((i : Int) + 1))).setCell ⟨b, 2, none⟩ (.int .u64 (IntKind.u64.wrap z))).drewN q) (some b) :=
    (((grown_drewN w m _).trans (grown_set _ b 1 _)).trans (grown_set _ b 2 _)).trans (grown_drewN _ q _)
  refine ⟨⟨v, n, i + 1, IntKind.u64.wrap z, ?_, by omega, (wrap_u64_bd z).1, (wrap_u64_bd z).2, hby.move fun r hr => hg.block r (by have := hB.lt; omega) (fun e => by injection e; omega)⟩, hg⟩
  have h1 := (((hB.drewN m).setCell 1 (.int .i64 ((i : Int) + 1))).setCell 2 (.int .u64 (IntKind.u64.wrap z))).drewN q
  exact h1
set_option maxRecDepth 100000 in
set_option maxHeartbeats 400000 in
theorem next_any (b k : Nat) (hk : k < 1000000) (w : World) (hs : Src w b k) :
    Calls Try.prog 54 #[.pointer (some ⟨b, 0, none⟩)] w (Gave w b (k + 1) fun x => 0 ≤ x ∧ x < 256) := by
  obtain ⟨v, n, i, sd, hB, hik, h0, h1, hby⟩ := hs
  have hby' := hby
  obtain ⟨a, c, rfl, hn, hc⟩ := hby'
  have c0 := hB.cell 0
  have c1 := hB.cell 1
  have c2 := hB.cell 2
  have f1 := hB.free 1
  have f2 := hB.free 2
  simp only [List.getElem?_toArray, List.getElem?_cons_zero, List.getElem?_cons_succ] at c0 c1 c2
  have d0 : (0 : Int) ≤ i := by omega
  by_cases hlt : i < n
  · obtain ⟨r, o, x, rfl, hr, hx, hcx⟩ := hc i hlt
    have d1 : (i : Int) < n := by omega
    have d2 : (i : Int) + 1 ≤ n := by omega
    have hne : r ≠ b := by omega
    clear hc
    go_enter Try.func54, Try.ntmps54
    go_wp2_with fail
    go_quiet (fail)
    go_wp2_with fail
    go_quiet (fail)
    go_wp2_with fail
    go_quiet (fail)
    go_wp2_with fail
    go_ret
    exact ⟨x, ⟨by omega, by omega⟩, rfl, src_turn hB hik hby _ _ _⟩
  · have d1 : ¬ (i : Int) < n := by omega
    have d2 : ¬ (i : Int) + 1 ≤ n := by omega
    clear hc
    go_enter Try.func54, Try.ntmps54
    go_wp2_with fail
    go_quiet (fail)
    go_wp2_with fail
    go_quiet (fail)
    go_wp2_with fail
    go_ret
    refine ⟨_, ?_, rfl, src_turn hB hik hby _ _ _⟩
    obtain ⟨x, hx, he⟩ := and255 _ (wrap_u64_bd (IntKind.u64.wrap (IntKind.u64.wrap (sd * 6364136223846793005)) + 1442695040888963407)).1 (wrap_u64_bd _).2
    rw [he]
    show 0 ≤ wrap64 (x : Int) ∧ wrap64 (x : Int) < 256
    unfold wrap64
    omega

set_option maxRecDepth 100000 in
set_option maxHeartbeats 400000 in
theorem pick_any (b k : Nat) (n : Int) (hk : k + 1 < 1000000) (h1 : 1 ≤ n) (h2 : n ≤ 1099511627776) (w : World) (hs : Src w b k) :
    Calls Try.prog 27 #[.pointer (some ⟨b, 0, none⟩), .int .i64 n] w (Gave w b (k + 2) fun x => 0 ≤ x ∧ x < n) := by
  have hx := next_any b k (by omega) w hs
  by_cases c1 : n ≤ 1
  · clear hx
    go_enter Try.func27, Try.ntmps27
    go_wp2_with fail
    go_ret
    exact ⟨0, ⟨by omega, by omega⟩, rfl, hs.mono (by omega), World.grownBy.refl _ _⟩
  · by_cases c2 : n ≤ 200
    · have c2' : decide (n > 200) = false := by simp; omega
      go_enter Try.func27, Try.ntmps27
      go_wp2_with (go_at_call 54; refine hx.mono ?_; rintro e w1 ⟨x, ⟨x0, x1⟩, rfl, hs1, hg1⟩)
      go_ret
      exact ⟨x % n, ⟨Int.emod_nonneg _ (by omega), Int.emod_lt_of_pos _ (by omega)⟩, rfl, hs1.mono (by omega), hg1⟩
    · have c2' : decide (n > 200) = true := by simp; omega
      have hx2 := fun w1 hs1 => next_any b (k + 1) (by omega) w1 hs1
      go_enter Try.func27, Try.ntmps27
      go_upto_region 5 with (go_at_call 54; refine hx.mono ?_; rintro e w1 ⟨x, ⟨x0, x1⟩, rfl, hs1, hg1⟩)
      go_wp2_with (go_at_call 54; refine (hx2 _ hs1).mono ?_; rintro e w2 ⟨y, ⟨y0, y1⟩, rfl, hs2, hg2⟩)
      go_ret
      exact ⟨(x * 256 + y) % n, ⟨Int.emod_nonneg _ (by omega), Int.emod_lt_of_pos _ (by omega)⟩, rfl, hs2, hg1.trans hg2⟩
/-- The same with a Bool. -/
def GaveB (w : World) (b k : Nat) (e : Ending) (w' : World) : Prop := ∃ x : Bool, e = .returned (.bool x) ∧ Src w' b k ∧ w.grownBy w' (some b)
set_option maxRecDepth 100000 in
set_option maxHeartbeats 400000 in
theorem one_any (b k : Nat) (n : Int) (hk : k + 1 < 1000000) (h1 : 1 ≤ n) (h2 : n ≤ 1099511627776) (w : World) (hs : Src w b k) :
    Calls Try.prog 33 #[.pointer (some ⟨b, 0, none⟩), .int .i64 n] w (GaveB w b (k + 2)) := by
  have hx := pick_any b k n hk h1 h2 w hs
  go_enter Try.func33, Try.ntmps33
  go_wp2_with (go_at_call 27; refine hx.mono ?_; rintro e w1 ⟨x, ⟨x0, x1⟩, rfl, hs1, hg1⟩)
  go_ret
  exact ⟨x == 0, rfl, hs1, hg1⟩
/-- The same with a number of single precision. -/
def GaveF (w : World) (b k : Nat) (P : Nat → Prop) (e : Ending) (w' : World) : Prop := ∃ x : Nat, P x ∧ e = .returned (.float .f32 x) ∧ Src w' b k ∧ w.grownBy w' (some b)
theorem fres_some {op : BinOp} {x y r : Nat} {w : World} (h : floatBits op .f32 x y = some r) : fres op x y w = r := by unfold fres; rw [h]; rfl
theorem fcnt_some {op : BinOp} {x y r : Nat} (h : floatBits op .f32 x y = some r) : fcnt op x y = 0 := by unfold fcnt; rw [h]; rfl
/-- Some quarters. -/
def fewOf (x : Nat) : Nat := (floatBits .quo .f32 (floatOfInt .f32 ((x : Int) - 32)) 1082130432).getD 0
def conOf (x : Nat) : Nat := (floatBits .quo .f32 (floatOfInt .f32 (1 + (x : Int))) 1082130432).getD 0
def headOf (x : Nat) : Nat := (floatBits .add .f32 1092616192 (fewOf x)).getD 0
theorem few_all : ∀ x : Nat, x < 65 → (floatBits .quo .f32 (floatOfInt .f32 ((x : Int) - 32)) 1082130432).isSome = true ∧ (floatBits .add .f32 1092616192 (fewOf x)).isSome = true ∧ plain (fewOf x) = true ∧ plain (headOf x) = true := by
  have h : (List.range 65).all (fun (x : Nat) => (floatBits .quo .f32 (floatOfInt .f32 ((x : Int) - 32)) 1082130432).isSome && (floatBits .add .f32 1092616192 (fewOf x)).isSome && plain (fewOf x) && plain (headOf x)) = true := by kernel_rfl
  intro x hx
  have := List.all_eq_true.1 h x (List.mem_range.2 hx)
  simpa [and_assoc] using this
theorem con_all : ∀ x : Nat, x < 12 → (floatBits .quo .f32 (floatOfInt .f32 (1 + (x : Int))) 1082130432).isSome = true ∧ amount (conOf x) = true := by
  have h : (List.range 12).all (fun (x : Nat) => (floatBits .quo .f32 (floatOfInt .f32 (1 + (x : Int))) 1082130432).isSome && amount (conOf x)) = true := by kernel_rfl
  intro x hx
  have := List.all_eq_true.1 h x (List.mem_range.2 hx)
  simpa using this
theorem few_is {x : Nat} (h : x < 65) : floatBits .quo .f32 (floatOfInt .f32 ((x : Int) - 32)) 1082130432 = some (fewOf x) := by
  obtain ⟨r, hr⟩ := Option.isSome_iff_exists.1 (few_all x h).1
  unfold fewOf; rw [hr]; rfl
theorem head_is {x : Nat} (h : x < 65) : floatBits .add .f32 1092616192 (fewOf x) = some (headOf x) := by
  obtain ⟨r, hr⟩ := Option.isSome_iff_exists.1 (few_all x h).2.1
  unfold headOf; rw [hr]; rfl
theorem con_is {x : Nat} (h : x < 12) : floatBits .quo .f32 (floatOfInt .f32 (1 + (x : Int))) 1082130432 = some (conOf x) := by
  obtain ⟨r, hr⟩ := Option.isSome_iff_exists.1 (con_all x h).1
  unfold conOf; rw [hr]; rfl
theorem float_eq {k : FloatKind} {a b : Nat} (h : a = b) : Ending.returned (.float k a) = Ending.returned (.float k b) := by rw [h]
end Go.Proofs.Ytglimhkpndfjgaa
/- Grounds that the reference draws (l01Drawn, A2Ground): all are valid. -/
namespace Go.Proofs.Ytglimhkpndfjgaa
open Go.ChangeShapes Go.WideShapes Go.ChangeAt Go.RowKit
set_option linter.unusedVariables false
set_option linter.unusedSimpArgs false

/-! ### Bits among bits. -/
def bv (z : Int) : BitVec 64 := BitVec.ofInt 64 z
theorem bv_nat (x : BitVec 64) : bv (x.toNat : Int) = x := by unfold bv; simp
theorem bits_eq (op : BinOp) (f : BitVec 64 → BitVec 64 → BitVec 64) (a b : Int) (h : bits op .u64 a b = IntKind.u64.wrap ((f (bv a) (bv b)).toNat : Int)) : bits op .u64 a b = ((f (bv a) (bv b)).toNat : Int) := by
  rw [h, IntKind.wrap_u64]
  have := (f (bv a) (bv b)).isLt
  simp only [Nat.reducePow] at this
  omega
theorem orB_bv (x : Int) (k : Nat) : orB x k = ((bv x ||| bv (IntKind.u64.wrap (2 ^ k))).toNat : Int) := by
  unfold orB; exact bits_eq .or (· ||| ·) _ _ rfl
theorem andNot_bv (x y : Int) : bits .andNot .u64 x y = ((bv x &&& ~~~ bv y).toNat : Int) := bits_eq .andNot (fun x y => x &&& ~~~ y) _ _ rfl
theorem andNot_zero {x y : Int} : (bits .andNot .u64 x y == 0) = true ↔ bv x &&& ~~~ bv y = 0#64 := by
  rw [andNot_bv, beq_iff_eq]
  constructor
  · intro h; apply BitVec.eq_of_toNat_eq; simp only [BitVec.toNat_ofNat]; omega
  · intro h; rw [h]; rfl
theorem lsb_and {x m : BitVec 64} (h : x &&& ~~~ m = 0#64) (i : Nat) (hi : i < 64) : (x.getLsbD i && !m.getLsbD i) = false := by
  have h1 : (x &&& ~~~ m).getLsbD i = (0#64).getLsbD i := by rw [h]
  rw [BitVec.getLsbD_and, BitVec.getLsbD_not, decide_eq_true hi, Bool.true_and, BitVec.getLsbD_zero] at h1
  exact h1
theorem and_lsb {x m : BitVec 64} (h : ∀ i, i < 64 → (x.getLsbD i && !m.getLsbD i) = false) : x &&& ~~~ m = 0#64 := by
  apply BitVec.eq_of_getLsbD_eq
  intro i hi
  rw [BitVec.getLsbD_and, BitVec.getLsbD_not, decide_eq_true hi, Bool.true_and, BitVec.getLsbD_zero]
  exact h i hi
theorem and_or (x p m : BitVec 64) (h : x &&& ~~~ m = 0#64) (h' : p &&& ~~~ m = 0#64) : (x ||| p) &&& ~~~ m = 0#64 := and_lsb fun i hi => by
  have h1 := lsb_and h i hi
  have h2 := lsb_and h' i hi
  rw [BitVec.getLsbD_or]
  generalize x.getLsbD i = a at *
  generalize p.getLsbD i = b at *
  generalize m.getLsbD i = c at *
  revert h1 h2
  cases a <;> cases b <;> cases c <;> decide
theorem and_more (p m q : BitVec 64) (h : p &&& ~~~ m = 0#64) : p &&& ~~~ (m ||| q) = 0#64 := and_lsb fun i hi => by
  have h1 := lsb_and h i hi
  rw [BitVec.getLsbD_or]
  generalize p.getLsbD i = a at *
  generalize m.getLsbD i = b at *
  generalize q.getLsbD i = c at *
  revert h1
  cases a <;> cases b <;> cases c <;> decide
theorem and_self_not (p m : BitVec 64) : p &&& ~~~ (m ||| p) = 0#64 := and_lsb fun i hi => by
  rw [BitVec.getLsbD_or]
  generalize p.getLsbD i = a at *
  generalize m.getLsbD i = b at *
  cases a <;> cases b <;> decide
theorem fold_has (k : Nat) : ∀ (L : List Nat) (x : Int), (k ∈ L ∨ bv (IntKind.u64.wrap (2 ^ k)) &&& ~~~ bv x = 0#64) → bv (IntKind.u64.wrap (2 ^ k)) &&& ~~~ bv (L.foldl orB x) = 0#64
  | [], x, h => by rcases h with h | h; · cases h
                   · exact h
  | j :: L, x, h => by
    refine fold_has k L (orB x j) ?_
    rw [orB_bv, bv_nat]
    rcases h with h | h
    · rcases List.mem_cons.1 h with h | h
      · subst h; exact .inr (and_self_not _ _)
      · exact .inl h
    · exact .inr (and_more _ _ _ h)
theorem mask_has {L : List Nat} {k : Nat} (h : k ∈ L) : bv (IntKind.u64.wrap (2 ^ k)) &&& ~~~ bv (maskOf L) = 0#64 := fold_has k L 0 (.inl h)
theorem or_in {x : Int} {L : List Nat} {k : Nat} (h : (bits .andNot .u64 x (maskOf L) == 0) = true) (hk : k ∈ L) : (bits .andNot .u64 (orB x k) (maskOf L) == 0) = true := by
  rw [andNot_zero] at h ⊢
  rw [orB_bv, bv_nat]
  exact and_or _ _ _ h (mask_has hk)
theorem orB_bd (x : Int) (k : Nat) : 0 ≤ orB x k ∧ orB x k < 18446744073709551616 := by
  rw [orB_bv]
  have := (bv x ||| bv (IntKind.u64.wrap (2 ^ k))).isLt
  simp only [Nat.reducePow] at this
  omega
/-! ### A ground that is being drawn: up to cell k. -/
structure Drawn (W H : Int) (k : Nat) (G : Gr) : Prop where
  wide : G.wide = W
  high : G.high = H
  con : ∀ i, i < 64 → G.con i = 0 ∨ (isC G i = true ∧ ∃ x, x < 12 ∧ G.con i = conOf x)
  gai : ∀ i, i < 64 → G.gai i = 0 ∨ (isC G i = true ∧ ∃ x, x < 65 ∧ G.gai i = fewOf x)
  hea : ∀ i, i < 64 → (isC G i = false → G.hea i = 0) ∧ (i < k → isC G i = true → ∃ x, x < 65 ∧ G.hea i = headOf x)
  fix : (0 ≤ G.fix ∧ G.fix < 18446744073709551616) ∧ (bits .andNot .u64 G.fix (maskOf (cellsTo G 64)) == 0) = true
theorem upd_same (f : Nat → Nat) (k x : Nat) : upd f k x k = x := by unfold upd; rw [if_pos rfl]
theorem upd_ne (f : Nat → Nat) (k x i : Nat) (h : i ≠ k) : upd f k x i = f i := by unfold upd; rw [if_neg h]
section
variable {W H : Int} {k : Nat} {G : Gr}
theorem Drawn.skip (h : Drawn W H k G) (hc : isC G k = false) : Drawn W H (k + 1) G :=
  { h with hea := fun i hi => ⟨(h.hea i hi).1, fun hk hc' => (h.hea i hi).2 (by
      by_cases e : i = k
      · subst e; rw [hc] at hc'; cases hc'
      · omega) hc'⟩ }
theorem Drawn.setC (h : Drawn W H k G) (j c : Nat) (hj : isC G j = true) (hc : c = 0 ∨ ∃ x, x < 12 ∧ c = conOf x) : Drawn W H k { G with con := upd G.con j c } :=
  { wide := h.wide, high := h.high, gai := h.gai, hea := h.hea, fix := h.fix,
    con := fun i hi => by
      show upd G.con j c i = 0 ∨ (isC G i = true ∧ ∃ x, x < 12 ∧ upd G.con j c i = conOf x)
      by_cases e : i = j
      · subst e; rw [upd_same]
        rcases hc with hc | hc
        · exact .inl hc
        · exact .inr ⟨hj, hc⟩
      · rw [upd_ne _ _ _ _ e]; exact h.con i hi }
theorem Drawn.setG (h : Drawn W H k G) (j c : Nat) (hj : isC G j = true) (hc : ∃ x, x < 65 ∧ c = fewOf x) : Drawn W H k { G with gai := upd G.gai j c } :=
  { wide := h.wide, high := h.high, con := h.con, hea := h.hea, fix := h.fix,
    gai := fun i hi => by
      show upd G.gai j c i = 0 ∨ (isC G i = true ∧ ∃ x, x < 65 ∧ upd G.gai j c i = fewOf x)
      by_cases e : i = j
      · subst e; rw [upd_same]; exact .inr ⟨hj, hc⟩
      · rw [upd_ne _ _ _ _ e]; exact h.gai i hi }
theorem Drawn.setH (h : Drawn W H k G) (c : Nat) (hk : isC G k = true) (hc : ∃ x, x < 65 ∧ c = headOf x) : Drawn W H (k + 1) { G with hea := upd G.hea k c } :=
  { wide := h.wide, high := h.high, con := h.con, gai := h.gai, fix := h.fix,
    hea := fun i hi => by
      show (isC G i = false → upd G.hea k c i = 0) ∧ (i < k + 1 → isC G i = true → ∃ x, x < 65 ∧ upd G.hea k c i = headOf x)
      by_cases e : i = k
      · subst e; rw [upd_same]; exact ⟨(fun h0 => by rw [hk] at h0; cases h0), fun _ _ => hc⟩
      · rw [upd_ne _ _ _ _ e]; exact ⟨(h.hea i hi).1, fun hi' => (h.hea i hi).2 (by omega)⟩ }
theorem Drawn.setF (h : Drawn W H k G) (j : Nat) (hj : j < 64) (hc : isC G j = true) : Drawn W H k { G with fix := orB G.fix j } :=
  { wide := h.wide, high := h.high, con := h.con, gai := h.gai, hea := h.hea,
    fix := ⟨orB_bd _ _, or_in h.fix.2 (cellsTo_mem.2 ⟨hj, hc⟩)⟩ }
theorem Drawn.ok (h : Drawn W H k G) (hW : 2 ≤ W ∧ W ≤ 4) (hH : 2 ≤ H ∧ H ≤ 4) : G.ok := ⟨by rw [h.wide]; omega, by rw [h.high]; omega, h.fix.1⟩
end
/-- A drawn ground. -/
structure IsDrawn (G : Gr) : Prop where
  ok : G.ok
  valid : validG G = true
  hea : ∀ i, i < 64 → isC G i = true → ∃ x, x < 65 ∧ G.hea i = headOf x
  small : G.wide ≤ 4 ∧ G.high ≤ 4
  con : ∀ i, i < 64 → G.con i = 0 ∨ (isC G i = true ∧ ∃ x, x < 12 ∧ G.con i = conOf x)
  gai : ∀ i, i < 64 → G.gai i = 0 ∨ (isC G i = true ∧ ∃ x, x < 65 ∧ G.gai i = fewOf x)
  off : ∀ i, i < 64 → isC G i = false → G.hea i = 0
theorem field_of {q : Nat → Bool} {G : Gr} {f : Nat → Nat} (h : ∀ i, i < 64 → (isC G i = true → q (f i) = true) ∧ (isC G i = false → f i = 0)) : fieldIs q G f = true := by
  unfold fieldIs
  rw [Bool.not_eq_true', anyTo_false]
  intro i hi
  unfold badAt
  obtain ⟨h1, h2⟩ := h i hi
  cases hc : isC G i
  · rw [if_neg (by decide), h2 hc]; kernel_rfl
  · rw [if_pos rfl, h1 hc]; rfl
theorem amount_zero : amount 0 = true := by kernel_rfl
theorem plain_zero : plain 0 = true := by kernel_rfl
theorem Drawn.done {W H : Int} {G : Gr} (h : Drawn W H 64 G) (hW : 2 ≤ W ∧ W ≤ 4) (hH : 2 ≤ H ∧ H ≤ 4) (hf : (G.fix == 0) = false) : IsDrawn G := by
  refine ⟨h.ok hW hH, ?_, fun i hi => (h.hea i hi).2 hi, by rw [h.wide, h.high]; omega, h.con, h.gai, fun i hi hc => (h.hea i hi).1 hc⟩
  unfold validG
  have e1 : (decide (2 ≤ G.wide) && decide (G.wide ≤ 8)) = true := by rw [h.wide]; simp; omega
  have e2 : (decide (2 ≤ G.high) && decide (G.high ≤ 8)) = true := by rw [h.high]; simp; omega
  have e3 : fieldIs amount G G.con = true := field_of fun i hi => by
    rcases h.con i hi with h0 | ⟨hc, x, hx, h0⟩
    · rw [h0]; exact ⟨fun _ => amount_zero, fun _ => rfl⟩
    · rw [h0]; exact ⟨fun _ => (con_all x hx).2, fun hn => by rw [hc] at hn; cases hn⟩
  have e4 : fieldIs plain G G.gai = true := field_of fun i hi => by
    rcases h.gai i hi with h0 | ⟨hc, x, hx, h0⟩
    · rw [h0]; exact ⟨fun _ => plain_zero, fun _ => rfl⟩
    · rw [h0]; exact ⟨fun _ => (few_all x hx).2.2.1, fun hn => by rw [hc] at hn; cases hn⟩
  have e5 : fieldIs plain G G.hea = true := field_of fun i hi => ⟨fun hc => by
    obtain ⟨x, hx, h0⟩ := (h.hea i hi).2 hi hc
    rw [h0]; exact (few_all x hx).2.2.2, (h.hea i hi).1⟩
  have e6 : fixOk G = true := by
    unfold fixOk
    have : (G.fix != 0) = true := by unfold bne; rw [hf]; rfl
    rw [this, h.fix.2]; rfl
  rw [e1, e2, e3, e4, e5, e6]; rfl
end Go.Proofs.Ytglimhkpndfjgaa
/- Floats of drawn grounds, for FnGrounds: what flows back is the opposite. Plain laws on words; no statement is proved here. -/
namespace Go.Proofs.Ytglimhkpndfjgaa
open Ieee
set_option linter.unusedVariables false
set_option linter.unusedSimpArgs false

theorem product_comm (a b : Datum) : a.product b = b.product a := by
  cases a <;> cases b <;> simp [Datum.product, Nat.mul_comm, Int.add_comm, Bool.xor_comm]
theorem sum_comm (a b : Datum) : a.sum b = b.sum a := by
  cases a <;> cases b <;> simp [Datum.sum]
  case number.number s m i t n j =>
    rw [Int.min_comm, Int.add_comm, Bool.and_comm]; simp
  case infinity.infinity s t => 
    by_cases h : s = t
    · subst h; rfl
    · rw [if_neg h, if_neg (fun e => h e.symm)]
theorem fop_mul_comm (a b : Nat) : fop .mul a b = fop .mul b a := by
  unfold fop
  rw [show floatBits .mul .f32 a b = ((single.read a).product (single.read b)).map single.write from rfl, product_comm]; rfl
theorem fop_add_comm (a b : Nat) : fop .add a b = fop .add b a := by
  unfold fop
  rw [show floatBits .add .f32 a b = ((single.read a).sum (single.read b)).map single.write from rfl, sum_comm]; rfl
theorem joint_comm (a b : Nat) : joint a b = joint b a := by
  unfold joint
  rw [Bool.and_comm, fop_mul_comm a b, fop_add_comm a b]
/-- A word with its sign turned. -/
theorem cut_bound (s : Bool) (n d : Nat) (B : Nat) (h : n / 2 ^ d < B) : Toward.even.cut s n d ≤ B := by
  unfold Toward.cut
  have hlow : n / (1 <<< min d (n.log2 + 2)) < B := by
    rw [Nat.one_shiftLeft]
    by_cases hd : d ≤ n.log2 + 2
    · rw [Nat.min_eq_left hd]; exact h
    · rw [Nat.min_eq_right (by omega)]
      have h1 : n < 2 ^ (n.log2 + 2) := Nat.lt_of_lt_of_le Nat.lt_log2_self (Nat.pow_le_pow_right (by omega) (by omega))
      rw [Nat.div_eq_of_lt h1]; exact Nat.lt_of_le_of_lt (Nat.zero_le _) h
  simp only
  generalize n / (1 <<< min d (n.log2 + 2)) = low at *
  have : ∀ b : Bool, b.toNat ≤ 1 := fun b => by cases b <;> decide
  exact Nat.le_trans (Nat.add_le_add_left (this _) _) (by omega)
theorem cut_sign (s t : Bool) (n d : Nat) : Toward.even.cut s n d = Toward.even.cut t n d := rfl
/-- So great is a number written at most. -/
theorem nearest_small (M : Nat) (p : Int) (E : Nat) (hp : p + (M.log2 : Int) - 23 ≤ -149 + (E : Int)) (hE : E ≤ 250) : ∃ R, R < 2139095040 ∧ R ≤ E * 8388608 + 16777216 ∧ ∀ s, single.nearest s M p = single.word s R := by
  obtain ⟨hb, hi, hl, hs, hf⟩ := single_facts
  by_cases h0 : M = 0
  · subst h0; exact ⟨0, by omega, by omega, fun s => by simp [Format.nearest]⟩
  obtain ⟨last, hlast⟩ : ∃ last, max (p + M.log2 - single.fractionBits) single.leastPlace = last := ⟨_, rfl⟩
  have hn := fun s => nearest_of single s M p last _ h0 hlast rfl
  rw [hf, hl] at hlast
  have hK : Toward.even.cut false (M <<< (p - last).toNat) (last - p).toNat ≤ 16777216 := by
    refine cut_bound _ _ _ _ ?_
    have hM : M < 2 ^ (M.log2 + 1) := Nat.lt_log2_self
    have hd : M.log2 + (p - last).toNat ≤ 23 + (last - p).toNat := by omega
    rw [Nat.shiftLeft_eq, Nat.div_lt_iff_lt_mul (Nat.two_pow_pos _)]
    calc M * 2 ^ (p - last).toNat < 2 ^ (M.log2 + 1) * 2 ^ (p - last).toNat := Nat.mul_lt_mul_of_pos_right hM (Nat.two_pow_pos _)
      _ = 2 ^ (M.log2 + 1 + (p - last).toNat) := (Nat.pow_add 2 (M.log2 + 1) _).symm
      _ ≤ 2 ^ (24 + (last - p).toNat) := Nat.pow_le_pow_right (by omega) (by omega)
      _ = 16777216 * 2 ^ (last - p).toNat := by rw [Nat.pow_add]
  obtain ⟨K, hKe⟩ : ∃ K, Toward.even.cut false (M <<< (p - last).toNat) (last - p).toNat = K := ⟨_, rfl⟩
  rw [hKe] at hK
  have hlt : (last - -149).toNat * 8388608 + K < 2139095040 := by
    have h1 : (last - -149).toNat ≤ 250 := by omega
    have := Nat.mul_le_mul_right 8388608 h1
    omega
  refine ⟨(last - -149).toNat * 8388608 + K, hlt, ?_, fun s => ?_⟩
  · have h1 : (last - -149).toNat ≤ E := by omega
    exact Nat.add_le_add (Nat.mul_le_mul_right _ h1) hK
  rw [hn s, hl, hb, hi, cut_sign s false, hKe, Nat.min_eq_left (Nat.le_of_lt hlt)]
/-- Small words, read. -/
theorem small_read {x : Nat} (h : x % 2147483648 < 1174405120) : ∃ (m k : Nat), single.read x = .number (x / 2147483648 % 2 == 1) m (-149 + (k : Int)) ∧ m < 16777216 ∧ k ≤ 139 := by
  obtain ⟨hb, hi, hl, hs, hf⟩ := single_facts
  unfold Format.read
  simp only [hs, hb, hi, hl]
  generalize x % 2147483648 = r at *
  by_cases h1 : r < 8388608
  · rw [if_pos h1]; exact ⟨r, 0, by simp, by omega, by omega⟩
  · rw [if_neg h1, if_pos (by omega)]; exact ⟨_, _, rfl, by omega, by omega⟩
theorem word_mod31 (s : Bool) {R : Nat} (h : R < 2139095040) : single.word s R % 2147483648 < 2139095040 := by
  unfold Format.word
  rw [single_facts.2.2.2.1]
  split <;> omega
/-- A product of small numbers is finite; with one sign turned it is the same with its sign turned. -/
theorem mul_small {a b c : Nat} (ha : a % 2147483648 < 1174405120) (hb : b % 2147483648 < 1174405120) (hc : c % 2147483648 = b % 2147483648) (hs : (c / 2147483648 % 2 == 1) = !(b / 2147483648 % 2 == 1)) : ∃ (s : Bool) (R : Nat), R < 2139095040 ∧ fop .mul a b = single.word s R ∧ fop .mul a c = single.word (!s) R := by
  obtain ⟨m, k, h1, h2, h3⟩ := small_read ha
  obtain ⟨n, l, h4, h5, h6⟩ := small_read hb
  obtain ⟨n', l', h7, h8, h9⟩ := small_read (x := c) (by omega)
  have hnl : n' = n ∧ (l' : Int) = l := by
    unfold Format.read at h4 h7
    rw [single_facts.2.2.2.1, hc] at h7
    rw [single_facts.2.2.2.1] at h4
    generalize b % 2147483648 = r at *
    simp only at h4 h7
    split at h4
    · rename_i q; rw [if_pos q] at h7; injection h4 with _ e1 e2; injection h7 with _ e3 e4; omega
    · rename_i q; rw [if_neg q] at h7
      split at h4
      · rename_i q2; rw [if_pos q2] at h7; injection h4 with _ e1 e2; injection h7 with _ e3 e4; omega
      · split at h4 <;> cases h4
  obtain ⟨rfl, hll⟩ := hnl
  obtain rfl : l' = l := by omega
  have hlog : (m * n').log2 ≤ 47 := by
    by_cases h0 : m * n' = 0
    · rw [h0]; decide
    · have : (m * n').log2 < 48 := (Nat.log2_lt h0).2 (by
        calc m * n' < 16777216 * 16777216 := Nat.mul_lt_mul'' h2 h5
          _ = 2 ^ 48 := by decide)
      omega
  obtain ⟨R, hR, _, hw⟩ := nearest_small (m * n') (-149 + (k : Int) + (-149 + (l' : Int))) 250 (by omega) (by omega)
  generalize (a / 2147483648 % 2 == 1) = sa at *
  generalize (b / 2147483648 % 2 == 1) = sb at *
  refine ⟨sa ^^ sb, R, hR, ?_, ?_⟩
  · have e : floatBits .mul .f32 a b = some (single.word (sa ^^ sb) R) := by
      show ((single.read a).product (single.read b)).map single.write = _
      rw [h1, h4]
      show some (single.nearest (sa ^^ sb) (m * n') _) = _
      rw [hw]
    unfold fop
    rw [e, Option.getD_some]
    exact cnk_of_not (finF_num (word_mod31 _ hR))
  · have e : floatBits .mul .f32 a c = some (single.word (!(sa ^^ sb)) R) := by
      show ((single.read a).product (single.read c)).map single.write = _
      rw [h1, h7, hs]
      show some (single.nearest (sa ^^ !sb) (m * n') _) = _
      rw [hw]
      cases sa <;> cases sb <;> rfl
    unfold fop
    rw [e, Option.getD_some]
    exact cnk_of_not (finF_num (word_mod31 _ hR))
/-- A number and its opposite add up to nothing. -/
theorem add_flip (s : Bool) {R : Nat} (h : R < 2139095040) : feq (fop .add (single.word (!s) R) (single.word s R)) 0 = true := by
  obtain ⟨hb, hi, hl, hs, hf⟩ := single_facts
  have hr := fun t => read_word single t R (by rw [hs]; omega)
  have hr2 : ∃ m e, ∀ t, single.read (single.word t R) = .number t m e := by
    rw [hb, hi, hl] at hr
    by_cases h1 : R < 8388608
    · exact ⟨R, -149, fun t => by rw [hr t, if_pos h1]⟩
    · exact ⟨_, _, fun t => by rw [hr t, if_neg h1, if_pos h]⟩
  obtain ⟨m, e, hr2⟩ := hr2
  have hbits : floatBits .add .f32 (single.word (!s) R) (single.word s R) = some 0 := by
    show ((single.read _).sum (single.read _)).map single.write = _
    rw [hr2, hr2]
    simp only [Datum.sum, Option.map_some]
    have ht : signed (!s) m (e - min e e).toNat + signed s m (e - min e e).toNat = 0 := by
      unfold signed; cases s <;> simp <;> omega
    rw [ht]
    cases s <;> rfl
  unfold fop
  rw [hbits]
  decide +kernel
theorem fin_word (s : Bool) {R : Nat} (h : R < 2139095040) : fin (single.word s R) = true := by
  obtain ⟨hb, hi, hl, hs, hf⟩ := single_facts
  have hr := read_word single s R (by rw [hs]; omega)
  have hr2 : ∃ m e, single.read (single.word s R) = .number s m e := by
    rw [hb, hi, hl] at hr
    by_cases h1 : R < 8388608
    · exact ⟨R, -149, by rw [hr, if_pos h1]⟩
    · exact ⟨_, _, by rw [hr, if_neg h1, if_pos h]⟩
  obtain ⟨m, e, hr2⟩ := hr2
  have hbits : floatBits .sub .f32 (single.word s R) (single.word s R) = some 0 := by
    show ((single.read _).sum (single.read _).opposite).map single.write = _
    rw [hr2]
    simp only [Datum.opposite, Datum.sum, Option.map_some]
    have ht : signed s m (e - min e e).toNat + signed (!s) m (e - min e e).toNat = 0 := by
      unfold signed; cases s <;> simp <;> omega
    rw [ht]
    cases s <;> rfl
  unfold fin fop
  rw [hbits]
  decide +kernel
/-- Numbers less than 2 ^ 6, read. -/
theorem tiny_read {x : Nat} (h : x % 2147483648 < 1115684864) : ∃ (m k : Nat), single.read x = .number (x / 2147483648 % 2 == 1) m (-149 + (k : Int)) ∧ m < 16777216 ∧ k ≤ 132 := by
  obtain ⟨hb, hi, hl, hs, hf⟩ := single_facts
  unfold Format.read
  simp only [hs, hb, hi, hl]
  generalize x % 2147483648 = r at *
  by_cases h1 : r < 8388608
  · rw [if_pos h1]; exact ⟨r, 0, by simp, by omega, by omega⟩
  · rw [if_neg h1, if_pos (by omega)]; exact ⟨_, _, rfl, by omega, by omega⟩
theorem sg_bd (s : Bool) (n : Nat) : (sg s n).natAbs = n := sg_natAbs32 s n
/-- Two differences, one way and the other. -/
theorem sub_flip {a b : Nat} (ha : a % 2147483648 < 1115684864) (hb : b % 2147483648 < 1115684864) : ∃ R, R < 1174405120 ∧ ((∃ s, fop .sub a b = single.word s R ∧ fop .sub b a = single.word (!s) R) ∨ (R = 0 ∧ ∃ s t, fop .sub a b = single.word s R ∧ fop .sub b a = single.word t R)) := by
  obtain ⟨m, k, h1, h2, h3⟩ := tiny_read ha
  obtain ⟨n, l, h4, h5, h6⟩ := tiny_read hb
  generalize (a / 2147483648 % 2 == 1) = s at *
  generalize (b / 2147483648 % 2 == 1) = t at *
  have h24 : (16777216 : Nat) = 2 ^ 24 := by decide
  rw [h24] at h2 h5
  obtain ⟨u, hu⟩ : ∃ u, u = min k l := ⟨_, rfl⟩
  obtain ⟨D, hD⟩ : ∃ D, D = sg s (m * 2 ^ (k - u)) + sg (!t) (n * 2 ^ (l - u)) := ⟨_, rfl⟩
  have hneg : ∀ (q : Bool) (x : Nat), sg (!q) x = - sg q x := fun q x => by unfold sg; cases q <;> simp
  have hD2 : sg t (n * 2 ^ (l - u)) + sg (!s) (m * 2 ^ (k - u)) = -D := by rw [hD, hneg, hneg]; omega
  have hbd : D.natAbs < 2 ^ (25 + (132 - u)) := by
    have e1 : m * 2 ^ (k - u) < 2 ^ (24 + (132 - u)) := by
      calc m * 2 ^ (k - u) < 2 ^ 24 * 2 ^ (k - u) := Nat.mul_lt_mul_of_pos_right h2 (Nat.two_pow_pos _)
        _ = 2 ^ (24 + (k - u)) := (Nat.pow_add 2 24 _).symm
        _ ≤ 2 ^ (24 + (132 - u)) := Nat.pow_le_pow_right (by omega) (by omega)
    have e2 : n * 2 ^ (l - u) < 2 ^ (24 + (132 - u)) := by
      calc n * 2 ^ (l - u) < 2 ^ 24 * 2 ^ (l - u) := Nat.mul_lt_mul_of_pos_right h5 (Nat.two_pow_pos _)
        _ = 2 ^ (24 + (l - u)) := (Nat.pow_add 2 24 _).symm
        _ ≤ 2 ^ (24 + (132 - u)) := Nat.pow_le_pow_right (by omega) (by omega)
    have e3 : 2 ^ (25 + (132 - u)) = 2 ^ (24 + (132 - u)) + 2 ^ (24 + (132 - u)) := by rw [show 25 + (132 - u) = (24 + (132 - u)) + 1 by omega, Nat.pow_succ]; omega
    have q1 := sg_bd s (m * 2 ^ (k - u))
    have q2 := sg_bd (!t) (n * 2 ^ (l - u))
    rw [e3, hD]
    omega
  have hlog : D.natAbs.log2 ≤ 24 + (132 - u) := by
    by_cases h0 : D.natAbs = 0
    · rw [h0, show Nat.log2 0 = 0 by decide]; omega
    · have := (Nat.log2_lt h0).2 hbd; omega
  obtain ⟨R, hR, hR2, hw⟩ := nearest_small D.natAbs (-149 + (u : Int)) 133 (by omega) (by omega)
  have hab : floatBits .sub .f32 a b = some (single.word (if D = 0 then s && !t else decide (D < 0)) R) := by
    show ((single.read a).sum (single.read b).opposite).map single.write = _
    rw [h1, h4]
    simp only [Datum.opposite, Datum.sum, Option.map_some]
    rw [show min (-149 + (k : Int)) (-149 + (l : Int)) = -149 + (u : Int) by omega, show (-149 + (k : Int) - (-149 + (u : Int))).toNat = k - u by omega, show (-149 + (l : Int) - (-149 + (u : Int))).toNat = l - u by omega, signed_sg, signed_sg, ← hD]
    show some (single.nearest (if D = 0 then s && !t else decide (D < 0)) D.natAbs (-149 + (u : Int))) = _
    rw [hw]
  have hba : floatBits .sub .f32 b a = some (single.word (if D = 0 then t && !s else decide (0 < D)) R) := by
    show ((single.read b).sum (single.read a).opposite).map single.write = _
    rw [h1, h4]
    simp only [Datum.opposite, Datum.sum, Option.map_some]
    rw [show min (-149 + (l : Int)) (-149 + (k : Int)) = -149 + (u : Int) by omega, show (-149 + (k : Int) - (-149 + (u : Int))).toNat = k - u by omega, show (-149 + (l : Int) - (-149 + (u : Int))).toNat = l - u by omega, signed_sg, signed_sg, hD2]
    show some (single.nearest (if -D = 0 then t && !s else decide (-D < 0)) (-D).natAbs (-149 + (u : Int))) = _
    rw [Int.natAbs_neg, hw]
    by_cases h0 : D = 0
    · rw [if_pos (by omega), if_pos h0]
    · rw [if_neg (by omega), if_neg h0]
      congr 2
      exact decide_eq_decide.2 (by omega)
  have f1 : ∀ q : Bool, cn (single.word q R) = single.word q R := fun q => cnk_of_not (finF_num (word_mod31 q hR))
  refine ⟨R, by omega, ?_⟩
  unfold fop
  rw [hab, hba, Option.getD_some, Option.getD_some, f1, f1]
  by_cases h0 : D = 0
  · right
    refine ⟨?_, _, _, rfl, rfl⟩
    have h := hw false
    rw [h0, Int.natAbs_zero] at h
    unfold Format.nearest at h
    rw [if_pos rfl] at h
    rw [word_plus, word_plus] at h
    exact h.symm
  · left
    rw [if_neg h0, if_neg h0]
    refine ⟨_, rfl, ?_⟩
    congr 1
    by_cases h1 : D < 0
    · rw [decide_eq_true h1, decide_eq_false (by omega)]; rfl
    · rw [decide_eq_false h1, decide_eq_true (by omega)]; rfl
/-- What flows to and fro between two cells. -/
theorem flow_back {J a b : Nat} (hJ : J % 2147483648 < 1174405120) (ha : a % 2147483648 < 1115684864) (hb : b % 2147483648 < 1115684864) : fin (fop .mul J (fop .sub a b)) = true ∧ isN .f32 (fop .mul J (fop .sub a b)) = false ∧ feq (fop .add (fop .mul J (fop .sub b a)) (fop .mul J (fop .sub a b))) 0 = true := by
  obtain ⟨hbn, hi, hl, hs, hf⟩ := single_facts
  obtain ⟨R, hR, hcase⟩ := sub_flip ha hb
  have hmod : ∀ q : Bool, single.word q R % 2147483648 = R := fun q => by unfold Format.word; rw [hs]; split <;> omega
  have hsgn : ∀ q : Bool, (single.word q R / 2147483648 % 2 == 1) = q := fun q => by
    unfold Format.word
    rw [hs]
    cases q
    · simp; omega
    · simp; omega
  have key : ∀ q : Bool, ∃ (p : Bool) (S : Nat), S < 2139095040 ∧ fop .mul J (single.word q R) = single.word p S ∧ fop .mul J (single.word (!q) R) = single.word (!p) S := fun q =>
    mul_small hJ (by rw [hmod]; exact hR) (by rw [hmod, hmod]) (by rw [hsgn, hsgn])
  rcases hcase with ⟨s, e1, e2⟩ | ⟨h0, s, t, e1, e2⟩
  · obtain ⟨p, S, hS, k1, k2⟩ := key s
    rw [e1, e2, k1, k2]
    exact ⟨fin_word _ hS, finF_num (word_mod31 _ hS), add_flip p hS⟩
  · have hz : ∀ q : Bool, ∃ p, fop .mul J (single.word q R) = single.word p 0 := fun q => by
      subst h0
      obtain ⟨m, k, h1, _⟩ := small_read hJ
      have e : floatBits .mul .f32 J (single.word q 0) = some (single.word ((J / 2147483648 % 2 == 1) ^^ q) 0) := by
        show ((single.read J).product (single.read (single.word q 0))).map single.write = _
        rw [h1, show single.read (single.word q 0) = .number q 0 (-149) by cases q <;> decide]
        show some (single.nearest ((J / 2147483648 % 2 == 1) ^^ q) (m * 0) (-149 + (k : Int) + -149)) = _
        rw [Nat.mul_zero]
        rfl
      refine ⟨(J / 2147483648 % 2 == 1) ^^ q, ?_⟩
      unfold fop
      rw [e, Option.getD_some]
      exact cnk_of_not (finF_num (word_mod31 _ (by omega)))
    obtain ⟨p1, k1⟩ := hz s
    obtain ⟨p2, k2⟩ := hz t
    rw [e1, e2, k1, k2]
    refine ⟨fin_word _ (by omega), finF_num (word_mod31 _ (by omega)), ?_⟩
    cases p1 <;> cases p2 <;> decide +kernel
/-- The drawn numbers are small. -/
theorem head_small : ∀ x : Nat, x < 65 → headOf x % 2147483648 < 1115684864 ∧ headOf x < 4294967296 := by decide +kernel
def cv (i : Nat) : Nat := if i = 0 then 0 else conOf (i - 1)
theorem joint_small : ∀ i : Nat, i < 13 → ∀ j : Nat, j < 13 → joint (cv i) (cv j) % 2147483648 < 1174405120 ∧ isN .f32 (joint (cv i) (cv j)) = false := by decide +kernel
theorem IsDrawn.cv {G : Gr} (h : IsDrawn G) {i : Nat} (hi : i < 64) : ∃ x, x < 13 ∧ G.con i = Go.Proofs.Ytglimhkpndfjgaa.cv x := by
  rcases h.con i hi with h0 | ⟨_, x, hx, h0⟩
  · exact ⟨0, by omega, h0⟩
  · exact ⟨x + 1, by omega, by rw [h0]; rfl⟩
/-- What flows between two cells of a drawn ground. -/
theorem drawn_flow {G : Gr} (h : IsDrawn G) {i k : Nat} (hi : i < 64) (hk : k < 64) (ci : isC G i = true) (ck : isC G k = true) : fin (fop .mul (joint (G.con i) (G.con k)) (fop .sub (G.hea i) (G.hea k))) = true ∧ isN .f32 (fop .mul (joint (G.con i) (G.con k)) (fop .sub (G.hea i) (G.hea k))) = false ∧ feq (fop .add (fop .mul (joint (G.con k) (G.con i)) (fop .sub (G.hea k) (G.hea i))) (fop .mul (joint (G.con i) (G.con k)) (fop .sub (G.hea i) (G.hea k)))) 0 = true := by
  obtain ⟨x, hx, e1⟩ := h.cv hi
  obtain ⟨y, hy, e2⟩ := h.cv hk
  obtain ⟨m, hm, e3⟩ := h.hea i hi ci
  obtain ⟨n, hn, e4⟩ := h.hea k hk ck
  rw [joint_comm (G.con k) (G.con i), e1, e2, e3, e4]
  exact flow_back (joint_small x hx y hy).1 (head_small m hm).1 (head_small n hn).1
end Go.Proofs.Ytglimhkpndfjgaa
