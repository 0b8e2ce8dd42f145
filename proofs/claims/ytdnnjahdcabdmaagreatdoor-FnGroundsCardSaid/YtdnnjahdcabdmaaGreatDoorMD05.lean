import Derived.Test.YtdnnjahdcabdmaaGreatDoorMD03
import Derived.Test.YtdnnjahdcabdmaaGreatDoorMD04
import Derived.BigQuiet
/- Which grounds are valid: the walks through the program's test and the reference's. -/
namespace Go.Proofs.YtdnnjahdcabdmaaGreatDoor
open Go.ChangeShapes Go.WideShapes Go.ChangeAt Go.RowKit
set_option linter.unusedVariables false
set_option linter.unusedSimpArgs false
attribute [local irreducible] Calls

/-- Is k a cell? -/
def isC (g : Gr) (k : Nat) : Bool := decide ((k : Int) % 8 < g.wide) && decide ((k : Int) / 8 < g.high)

set_option maxRecDepth 100000 in
set_option maxHeartbeats 400000 in
theorem has_any (g : Gr) (b : Nat) (k : Nat) (hg : g.ok) (hk : k < 64) (w : World) (hb : GAt w b g) :
    Calls Tryz.prog 60 #[.pointer (some ⟨b, 0, none⟩), .int .i64 k] w fun e w' => e = .returned (.bool (isC g k)) ∧ w' = w := by
  obtain ⟨h1, h2, h3⟩ := hg
  have c0 : w.cell? ⟨b, 0, none⟩ = some (.int .i8 g.wide) := hb.get0
  have c1 : w.cell? ⟨b, 1, none⟩ = some (.int .i8 g.high) := hb.get1
  have bk : (0 : Int) ≤ k := by omega
  have bl : (k : Int) < 64 := by omega
  unfold isC
  cases hd : decide ((k : Int) % 8 < g.wide)
  · go_enter Tryz.func60, Tryz.ntmps60
    go_wp2_with fail
    go_ret
    exact ⟨rfl, rfl⟩
  · go_enter Tryz.func60, Tryz.ntmps60
    go_wp2_with fail
    go_ret
    exact ⟨rfl, rfl⟩

/-- Narrow numbers compared. -/
@[irreducible] def fge (a b : Nat) : Bool := FloatKind.f32.format.order a b == some .gt || FloatKind.f32.format.order a b == some .eq
@[irreducible] def fle (a b : Nat) : Bool := FloatKind.f32.format.order a b == some .lt || FloatKind.f32.format.order a b == some .eq
@[irreducible] def flt (a b : Nat) : Bool := FloatKind.f32.format.order a b == some .lt
@[irreducible] def feq (a b : Nat) : Bool := FloatKind.f32.format.order a b == some .eq
theorem fge_eq (a b : Nat) : (FloatKind.f32.format.order a b == some .gt || FloatKind.f32.format.order a b == some .eq) = fge a b := by unfold fge; rfl
theorem fle_eq (a b : Nat) : (FloatKind.f32.format.order a b == some .lt || FloatKind.f32.format.order a b == some .eq) = fle a b := by unfold fle; rfl
theorem flt_eq (a b : Nat) : (FloatKind.f32.format.order a b == some .lt) = flt a b := by unfold flt; rfl
theorem feq_eq (a b : Nat) : (FloatKind.f32.format.order a b == some .eq) = feq a b := by unfold feq; rfl
theorem fne_eq (a b : Nat) : (FloatKind.f32.format.order a b != some .eq) = !feq a b := by unfold feq; rfl
/-- Is this a plain number? -/
def plain (b : Nat) : Bool := fge b 3380609024 && fle b 1233125376
def amount (b : Nat) : Bool := plain b && fge b 0

set_option maxRecDepth 100000 in
set_option maxHeartbeats 400000 in
theorem isPlain_any (b : Nat) (w : World) :
    Calls Tryz.prog 34 #[.float .f32 b] w fun e w' => e = .returned (.bool (plain b)) ∧ w' = w := by
  have h1 := fge_eq b 3380609024
  have h2 := fle_eq b 1233125376
  unfold plain
  cases hd : fge b 3380609024 <;> rw [hd] at h1
  · go_enter Tryz.func34, Tryz.ntmps34
    go_wp2_with fail
    go_ret
    exact ⟨rfl, rfl⟩
  · go_enter Tryz.func34, Tryz.ntmps34
    go_wp2_with fail
    go_ret
    exact ⟨rfl, rfl⟩
set_option maxRecDepth 100000 in
set_option maxHeartbeats 400000 in
theorem l01Plain_any (b : Nat) (w : World) :
    Calls Tryz.prog 92 #[.float .f32 b] w fun e w' => e = .returned (.bool (plain b)) ∧ w' = w := by
  have h1 := fge_eq b 3380609024
  have h2 := fle_eq b 1233125376
  unfold plain
  cases hd : fge b 3380609024 <;> rw [hd] at h1
  · go_enter Tryz.func92, Tryz.ntmps92
    go_wp2_with fail
    go_ret
    exact ⟨rfl, rfl⟩
  · go_enter Tryz.func92, Tryz.ntmps92
    go_wp2_with fail
    go_ret
    exact ⟨rfl, rfl⟩
set_option maxRecDepth 100000 in
set_option maxHeartbeats 400000 in
theorem isAmount_any (b : Nat) (w : World) :
    Calls Tryz.prog 90 #[.float .f32 b] w fun e w' => e = .returned (.bool (amount b)) ∧ w' = w := by
  have h1 := fge_eq b 0
  have hp := isPlain_any b w
  unfold amount
  cases hd : plain b <;> rw [hd] at hp
  · go_enter Tryz.func90, Tryz.ntmps90
    go_wp2_with (go_at_call 34; refine hp.mono ?_; rintro e w' ⟨rfl, hw⟩; rw [hw]; clear hw w')
    go_ret
    exact ⟨rfl, rfl⟩
  · go_enter Tryz.func90, Tryz.ntmps90
    go_wp2_with (go_at_call 34; refine hp.mono ?_; rintro e w' ⟨rfl, hw⟩; rw [hw]; clear hw w')
    go_ret
    exact ⟨rfl, rfl⟩

set_option maxRecDepth 100000 in
set_option maxHeartbeats 400000 in
theorem l01Is_any (g : Gr) (b : Nat) (k : Nat) (hg : g.ok) (hk : k < 64) (w : World) (hb : GAt w b g) :
    Calls Tryz.prog 79 #[.pointer (some ⟨b, 0, none⟩), .int .i64 k] w fun e w' => e = .returned (.bool (isC g k)) ∧ w' = w := by
  obtain ⟨h1, h2, h3⟩ := hg
  have c0 : w.cell? ⟨b, 0, none⟩ = some (.int .i8 g.wide) := hb.get0
  have c1 : w.cell? ⟨b, 1, none⟩ = some (.int .i8 g.high) := hb.get1
  have bk : (0 : Int) ≤ k := by omega
  have bl : (k : Int) < 64 := by omega
  have hi := l00In_any k 0 63 w
  rw [show (decide ((0 : Int) ≤ k) && decide ((k : Int) ≤ 63)) = true by simp; omega] at hi
  unfold isC
  cases hd : decide ((k : Int) % 8 < g.wide)
  · go_enter Tryz.func79, Tryz.ntmps79
    go_wp2_with (go_at_call 123; refine hi.mono ?_; rintro e w' ⟨rfl, hw⟩; rw [hw]; clear hw w')
    go_ret
    exact ⟨rfl, rfl⟩
  · go_enter Tryz.func79, Tryz.ntmps79
    go_wp2_with (go_at_call 123; refine hi.mono ?_; rintro e w' ⟨rfl, hw⟩; rw [hw]; clear hw w')
    go_ret
    exact ⟨rfl, rfl⟩

/-- Is a field's number at k as it must be? -/
def badAt (q : Nat → Bool) (g : Gr) (f : Nat → Nat) (k : Nat) : Bool := if isC g k then !q (f k) else !feq (f k) 0
def fieldIs (q : Nat → Bool) (g : Gr) (f : Nat → Nat) : Bool := !anyTo (badAt q g f) (fun i => i) 64

set_option maxRecDepth 100000 in
set_option maxHeartbeats 400000 in
theorem l01Field_any (g : Gr) (b : Nat) (f : Nat → Nat) (o : Nat) (hg : g.ok) (w : World) (hb : GAt w b g) (hf : ∀ k, k < 64 → w.cell? ⟨b, o + k, none⟩ = some (.float .f32 (f k))) :
    Calls Tryz.prog 124 #[.pointer (some ⟨b, 0, none⟩), .pointer (some ⟨b, o, none⟩)] w fun e w' => e = .returned (.bool (fieldIs plain g f)) ∧ w' = w := by
  have HF := Lib.hid hf
  clear hf
  go_enter Tryz.func124, Tryz.ntmps124
  go_wp2_with fail
  go_loop [5] (fun i => ∃ k : Nat, k ≤ 64 ∧ i = .int .i64 k ∧ Hid (∀ j, j < k → badAt plain g f j = false)) (fun i => 64 - (intOf i).toNat)
  case atStart => exact ⟨0, by omega, rfl, Lib.hid fun j hj => by omega⟩
  case round =>
    obtain ⟨k, hk, rfl, hq⟩ := hrel
    by_cases hlt : k < 64
    · have bk : (0 : Int) ≤ k := by omega
      have bl : (k : Int) < 64 := by omega
      have c0 : w.cell? ⟨b, o + k, none⟩ = some (.float .f32 (f k)) := HF.out k hlt
      have his := l01Is_any g b k hg hlt w hb
      cases hc : isC g k
      · rw [hc] at his
        have h1 := fne_eq (f k) 0
        cases hz : feq (f k) 0 <;> (rw [hz] at h1; simp only [Bool.not_true, Bool.not_false] at h1)
        · have HZ := Lib.hid (And.intro hc hz)
          clear hc hz
          go_wp2_with (first | (go_at_call 79; refine his.mono ?_; rintro e w' ⟨rfl, hw⟩; rw [hw]; clear hw w'))
          go_ret
          exact ⟨bool_eq (by unfold fieldIs; rw [anyTo_true (i := k) hlt (by simp [badAt, HZ.out.1, HZ.out.2])]; rfl), rfl⟩
        · have HZ := Lib.hid (And.intro hc hz)
          clear hc hz
          go_wp2_with (first | (go_at_call 79; refine his.mono ?_; rintro e w' ⟨rfl, hw⟩; rw [hw]; clear hw w'))
          go_round
          case rel => exact ⟨k + 1, by omega, by go_num, Lib.hid (all_step hq.out (by simp [badAt, HZ.out.1, HZ.out.2]))⟩
          case measure => simp [intOf]; omega
      · rw [hc] at his
        have hpl := l01Plain_any (f k) w
        cases hz : plain (f k) <;> rw [hz] at hpl
        · have HZ := Lib.hid (And.intro hc hz)
          clear hc hz
          go_wp2_with (first | (go_at_call 79; refine his.mono ?_; rintro e w' ⟨rfl, hw⟩; rw [hw]; clear hw w') | (go_at_call 92; refine hpl.mono ?_; rintro e w' ⟨rfl, hw⟩; rw [hw]; clear hw w'))
          go_ret
          exact ⟨bool_eq (by unfold fieldIs; rw [anyTo_true (i := k) hlt (by simp [badAt, HZ.out.1, HZ.out.2])]; rfl), rfl⟩
        · have HZ := Lib.hid (And.intro hc hz)
          clear hc hz
          go_wp2_with (first | (go_at_call 79; refine his.mono ?_; rintro e w' ⟨rfl, hw⟩; rw [hw]; clear hw w') | (go_at_call 92; refine hpl.mono ?_; rintro e w' ⟨rfl, hw⟩; rw [hw]; clear hw w'))
          go_round
          case rel => exact ⟨k + 1, by omega, by go_num, Lib.hid (all_step hq.out (by simp [badAt, HZ.out.1, HZ.out.2]))⟩
          case measure => simp [intOf]; omega
    · obtain rfl : k = 64 := by omega
      go_wp2_with fail
      go_ret
      exact ⟨bool_eq (by unfold fieldIs; rw [anyTo_false.2 hq.out]; rfl), rfl⟩
theorem Callable.run {P : Program} {fid : FuncId} (hf : Callable P fid) (args : Array Value) (w : World) : (callFunc fid args).run P w = .ok (.enter fid args) w := by
  obtain ⟨fn, hf, hn, hb⟩ := hf
  have hn' : fn.name ≠ "runtime.NumGoroutine" := by simpa using hn
  have hb' : ¬ fn.body = none := by intro h0; rw [h0] at hb; simp at hb
  simp [callFunc, hf, hn', hb']

set_option maxRecDepth 100000 in
set_option maxHeartbeats 400000 in
theorem fieldOk_any (q : Nat → Bool) (fid : Nat) (g : Gr) (b : Nat) (f : Nat → Nat) (o : Nat) (hg : g.ok) (w : World) (hb : GAt w b g) (hf : ∀ k, k < 64 → w.cell? ⟨b, o + k, none⟩ = some (.float .f32 (f k))) (hfid : Callable Tryz.prog fid)
    (hcall : ∀ x w', Calls Tryz.prog fid #[.float .f32 x] w' fun e w'' => e = .returned (.bool (q x)) ∧ w'' = w') :
    Calls Tryz.prog 89 #[.pointer (some ⟨b, 0, none⟩), .pointer (some ⟨b, o, none⟩), .func (.func fid) #[] #[]] w fun e w' => e = .returned (.bool (fieldIs q g f)) ∧ ∃ n, w' = w.drewN n := by
  have HF := Lib.hid hf
  clear hf
  go_enter Tryz.func89, Tryz.ntmps89
  go_wp2_with fail
  go_loopw [10] (fun i wr => ∃ k : Nat, k ≤ 64 ∧ i = .int .i64 k ∧ Hid (∀ j, j < k → badAt q g f j = false) ∧ ∃ n, wr = w.drewN n) (fun i _ => 64 - (intOf i).toNat)
  case atStart => exact ⟨0, by omega, rfl, Lib.hid fun j hj => by omega, 0, rfl⟩
  case round =>
    obtain ⟨k, hk, rfl, hq, n, rfl⟩ := hrel
    by_cases hlt : k < 64
    · have bk : (0 : Int) ≤ k := by omega
      have bl : (k : Int) < 64 := by omega
      have c0 : w.cell? ⟨b, o + k, none⟩ = some (.float .f32 (f k)) := HF.out k hlt
      go_wp2_with fail
      go_quiet (fail)
      have his := fun m => has_any g b k hg hlt (w.drewN m) (hb.drewN m)
      cases hc : isC g k
      · rw [hc] at his
        have h1 := fne_eq (f k) 0
        cases hz : feq (f k) 0 <;> (rw [hz] at h1; simp only [Bool.not_true, Bool.not_false] at h1)
        · have HZ := Lib.hid (And.intro hc hz)
          clear hc hz
          go_wp2_with (first | (go_at_call 60; refine (his _).mono ?_; rintro e w' ⟨rfl, hw⟩; rw [hw]; clear hw w'))
          go_ret
          exact ⟨bool_eq (by unfold fieldIs; rw [anyTo_true (i := k) hlt (by simp [badAt, HZ.out.1, HZ.out.2])]; rfl), _, rfl⟩
        · have HZ := Lib.hid (And.intro hc hz)
          clear hc hz
          go_wp2_with (first | (go_at_call 60; refine (his _).mono ?_; rintro e w' ⟨rfl, hw⟩; rw [hw]; clear hw w'))
          go_roundw
          case rel => exact ⟨k + 1, by omega, by go_num, Lib.hid (all_step hq.out (by simp [badAt, HZ.out.1, HZ.out.2])), _, rfl⟩
          case measure => simp [intOf]; omega
      · rw [hc] at his
        have hpl := fun w' => hcall (f k) w'
        have hrun := fun w' => hfid.run #[.float .f32 (f k)] w'
        cases hz : q (f k) <;> rw [hz] at hpl
        · have HZ := Lib.hid (And.intro hc hz)
          clear hc hz
          go_wp2_with (first | (go_at_call 60; refine (his _).mono ?_; rintro e w' ⟨rfl, hw⟩; rw [hw]; clear hw w') | (refine (hpl _).mono ?_; rintro e w' ⟨rfl, hw⟩; rw [hw]; clear hw w'))
          go_ret
          exact ⟨bool_eq (by unfold fieldIs; rw [anyTo_true (i := k) hlt (by simp [badAt, HZ.out.1, HZ.out.2])]; rfl), _, rfl⟩
        · have HZ := Lib.hid (And.intro hc hz)
          clear hc hz
          go_wp2_with (first | (go_at_call 60; refine (his _).mono ?_; rintro e w' ⟨rfl, hw⟩; rw [hw]; clear hw w') | (refine (hpl _).mono ?_; rintro e w' ⟨rfl, hw⟩; rw [hw]; clear hw w'))
          go_roundw
          case rel => exact ⟨k + 1, by omega, by go_num, Lib.hid (all_step hq.out (by simp [badAt, HZ.out.1, HZ.out.2])), _, rfl⟩
          case measure => simp [intOf]; omega
    · obtain rfl : k = 64 := by omega
      go_wp2_with fail
      go_ret
      exact ⟨bool_eq (by unfold fieldIs; rw [anyTo_false.2 hq.out]; rfl), n, rfl⟩
/-- The cells among the first k. -/
def cellsTo (g : Gr) (k : Nat) : List Nat := (List.range k).filter fun i => isC g i
theorem cellsTo_succ (g : Gr) (k : Nat) : cellsTo g (k + 1) = if isC g k then cellsTo g k ++ [k] else cellsTo g k := by
  unfold cellsTo; rw [List.range_succ, List.filter_append]; cases h : isC g k <;> simp [h]
theorem cellsTo_length (g : Gr) (k : Nat) : (cellsTo g k).length ≤ k := by
  unfold cellsTo; exact Nat.le_trans (List.length_filter_le _ _) (by simp)
theorem cellsTo_lt {g : Gr} {k i : Nat} (h : i ∈ cellsTo g k) : i < k ∧ isC g i = true := by
  unfold cellsTo at h; rw [List.mem_filter, List.mem_range] at h; exact h
/-- Whole numbers in a row. -/
@[irreducible] def ils (l : List Nat) : List Value := l.map fun (i : Nat) => Value.int .i64 (i : Int)
theorem ils_length (l : List Nat) : (ils l).length = l.length := by simp [ils]
theorem ils_nil : ils [] = [] := by simp [ils]
theorem ils_snoc (l : List Nat) (k : Nat) : ils l ++ [.int .i64 k] = ils (l ++ [k]) := by simp [ils]
theorem ils_get (l : List Nat) (i k : Nat) (h : l[i]? = some k) : (ils l)[i]? = some (.int .i64 k) := by simp [ils, h]
theorem elInt : ElemTy Tryz.prog 120 3 1 8 := elem_of (z := .int .i64 0) Tryz.underlying120 (by kernel_rfl) rfl

set_option maxRecDepth 100000 in
set_option maxHeartbeats 400000 in
theorem cells_any (g : Gr) (b : Nat) (hg : g.ok) (w : World) (hb : GAt w b g) :
    Calls Tryz.prog 73 #[.pointer (some ⟨b, 0, none⟩)] w fun e w' => ∃ r cap, e = .returned (.slice (some ⟨r, 0, none⟩) (cellsTo g 64).length cap) ∧ w.heap.size ≤ r ∧ Own w' r 3 1 (.slice (some ⟨r, 0, none⟩) (cellsTo g 64).length cap) (cellsTo g 64).length (ils (cellsTo g 64)) ∧ Below w.heap.size w w' := by
  have lb := hb.lt
  go_enter Tryz.func73, Tryz.ntmps73
  go_wp2_with fail
  have hE : Own (w.alloc (.cells #[] 3)) w.heap.size 3 1 (.slice (some ⟨w.heap.size, 0, none⟩) 0 0) 0 (ils []) := own_blk (Blk.new _ _ _) rfl (by decide) (by rw [ils_nil])
  have hbel := below1 w (.cells #[] 3)
  have hb1 := hb.alloc (.cells #[] 3)
  go_loopw [3, 6] (fun s i wr => ∃ (k r n : Nat), k ≤ 64 ∧ i = .int .i64 k ∧ n = (cellsTo g k).length ∧ Own wr r 3 1 s n (ils (cellsTo g k)) ∧ w.heap.size ≤ r ∧ GAt wr b g ∧ Below w.heap.size w wr) (fun _ i _ => 64 - (intOf i).toNat)
  case atStart => exact ⟨0, _, 0, by omega, rfl, rfl, hE, Nat.le_refl _, hb1, hbel⟩
  case round =>
    clear hE hbel hb1 hb
    obtain ⟨k, r, n, hk, rfl, hn, hown, hr, hb, hbel⟩ := hrel
    by_cases hlt : k < 64
    · have bk : (0 : Int) ≤ k := by omega
      have bl : (k : Int) < 64 := by omega
      have his := has_any g b k hg hlt wr hb
      have hl := cellsTo_length g k
      have hs := cellsTo_succ g k
      cases hc : isC g k <;> rw [hc] at his hs
      · have HS := Lib.hid hs
        clear hs hc
        go_wp2_with (first | (go_at_call 60; refine his.mono ?_; rintro e w' ⟨rfl, hw⟩; rw [hw]; clear hw w'))
        go_roundw
        case rel =>
          have hs := HS.out
          simp only [if_false, Bool.false_eq_true] at hs
          exact ⟨k + 1, r, n, by omega, by go_num, by rw [hs]; exact hn, by rw [hs]; exact hown, hr, hb, hbel⟩
        case measure => simp [intOf]; omega
      · have HS := Lib.hid hs
        clear hs hc
        have hB := hbel.size
        have lr := hown.lt
        go_wp2_with (first | (go_at_call 60; refine his.mono ?_; rintro e w' ⟨rfl, hw⟩; rw [hw]; clear hw w') | (at_builtin; refine wpList_app elInt rfl rfl rfl rfl (by decide) (hown.alloc _) (Blk.new _ _ _) rfl ?_ ?_ ?_ ?_; (· intro u hu; simp at hu; subst hu; rfl); (· unfold maxLen; omega); (· omega); intro v1 w1 g1 hown1 hgr hg1))
        go_roundw
        case rel =>
          have hs := HS.out
          simp only [if_true] at hs
          simp only [show ((#[Value.int .i64 k] : Array Value).toList) = [.int .i64 k] from rfl] at hown1
          rw [ils_snoc, ← hs] at hown1
          have hb1 := (hb.alloc (.cells #[.int .i64 k] 3)).grown hgr (by simp; omega)
          have hbel1 := (hbel.alloc hB (.cells #[.int .i64 k] 3)).grown hgr (by simp; omega) (fun j hj => by injection hj with hj; omega)
          refine ⟨k + 1, g1, n + 1, by omega, by go_num, by rw [hs]; simp [hn], hown1, ?_, hb1, hbel1⟩
          simp at hg1; omega
        case measure => simp [intOf]; omega
    · obtain rfl : k = 64 := by omega
      obtain ⟨cap, rfl, _, _⟩ := hown.form
      go_wp2_with fail
      go_ret
      subst hn
      exact ⟨r, cap, rfl, hr, hown, hbel⟩
theorem int_eq {k : IntKind} {a b : Int} (h : a = b) : Ending.returned (.int k a) = Ending.returned (.int k b) := by rw [h]
/-- The mask with one more cell; the mask of a list of cells. -/
@[irreducible] def orB (x : Int) (k : Nat) : Int := bits .or .u64 x (IntKind.u64.wrap (2 ^ k))
theorem orB_eq (x : Int) (k : Nat) : bits .or .u64 x (IntKind.u64.wrap (2 ^ k)) = orB x k := by unfold orB; rfl
def maskOf (l : List Nat) : Int := l.foldl orB 0
theorem maskOf_snoc (l : List Nat) (k : Nat) : maskOf (l ++ [k]) = orB (maskOf l) k := by simp [maskOf]

set_option maxRecDepth 100000 in
set_option maxHeartbeats 400000 in
theorem l01Cells_any (g : Gr) (b : Nat) (hg : g.ok) (w : World) (hb : GAt w b g) :
    Calls Tryz.prog 125 #[.pointer (some ⟨b, 0, none⟩)] w fun e w' => e = .returned (.int .u64 (maskOf (cellsTo g 64))) ∧ w' = w := by
  go_enter Tryz.func125, Tryz.ntmps125
  go_wp2_with fail
  go_loop [3, 4] (fun a i => ∃ (k : Nat) (x : Int), k ≤ 64 ∧ i = .int .i64 k ∧ a = .int .u64 x ∧ Hid (x = maskOf (cellsTo g k))) (fun _ i => 64 - (intOf i).toNat)
  case atStart => exact ⟨0, 0, by omega, rfl, rfl, Lib.hid rfl⟩
  case round =>
    obtain ⟨k, x, hk, rfl, rfl, hx⟩ := hrel
    by_cases hlt : k < 64
    · have bk : (0 : Int) ≤ k := by omega
      have bl : (k : Int) < 64 := by omega
      have his := l01Is_any g b k hg hlt w hb
      cases hc : isC g k <;> rw [hc] at his
      · have HC := Lib.hid hc
        clear hc
        go_wp2_with (first | (go_at_call 79; refine his.mono ?_; rintro e w' ⟨rfl, hw⟩; rw [hw]; clear hw w'))
        go_round
        case rel => exact ⟨k + 1, x, by omega, by go_num, rfl, Lib.hid (by rw [cellsTo_succ, HC.out]; exact hx.out)⟩
        case measure => simp [intOf]; omega
      · have HC := Lib.hid hc
        clear hc
        go_wp2_with (first | (go_at_call 79; refine his.mono ?_; rintro e w' ⟨rfl, hw⟩; rw [hw]; clear hw w'))
        go_round
        case rel => exact ⟨k + 1, _, by omega, by go_num, rfl, Lib.hid (by rw [cellsTo_succ, HC.out, orB_eq, hx.out]; simp [maskOf_snoc])⟩
        case measure => simp [intOf]; omega
    · obtain rfl : k = 64 := by omega
      go_wp2_with fail
      go_ret
      exact ⟨int_eq hx.out, rfl⟩

set_option maxRecDepth 100000 in
set_option maxHeartbeats 400000 in
theorem bits_any (g : Gr) (b : Nat) (hg : g.ok) (w : World) (hb : GAt w b g) :
    Calls Tryz.prog 91 #[.pointer (some ⟨b, 0, none⟩)] w fun e w' => e = .returned (.int .u64 (maskOf (cellsTo g 64))) ∧ Below w.heap.size w w' := by
  have hcl := cells_any g b hg w hb
  have hlen := cellsTo_length g 64
  go_enter Tryz.func91, Tryz.ntmps91
  go_wp2_with (go_at_call 73; refine hcl.mono ?_; rintro e w1 ⟨r, cap, rfl, hr, hown, hbel⟩)
  clear hcl
  obtain ⟨_, hcap, hc1, hc2⟩ := hown.form
  injection hcap with _ _ hcap
  subst hcap
  go_loop [3, 9] (fun a i => ∃ (j : Nat) (x : Int), j ≤ (cellsTo g 64).length ∧ i = .int .i64 j ∧ a = .int .u64 x ∧ Hid (x = maskOf ((cellsTo g 64).take j))) (fun _ i => (cellsTo g 64).length - (intOf i).toNat)
  case atStart => exact ⟨0, 0, by omega, rfl, rfl, Lib.hid rfl⟩
  case round =>
    obtain ⟨j, x, hj, rfl, rfl, hx⟩ := hrel
    by_cases hlt : j < (cellsTo g 64).length
    · obtain ⟨k, hk⟩ : ∃ k, (cellsTo g 64)[j]? = some k := ⟨_, List.getElem?_eq_getElem hlt⟩
      have hk64 := cellsTo_lt (List.mem_of_getElem? hk)
      have c0 : w1.cell? ⟨r, j, none⟩ = some (.int .i64 k) := (hown.cell _ (by omega)).trans (ils_get _ _ _ hk)
      have bk : (0 : Int) ≤ k := by omega
      have bl : (k : Int) < 64 := by omega
      have bj : (0 : Int) ≤ j := by omega
      have HK := Lib.hid hk
      clear hk hk64
      go_wp2_with fail
      go_round
      case rel => exact ⟨j + 1, _, by omega, by go_num, rfl, Lib.hid (by rw [orB_eq, hx.out, ← maskOf_snoc, List.take_add_one, HK.out]; rfl)⟩
      case measure => simp [intOf]; omega
    · obtain rfl : j = (cellsTo g 64).length := by omega
      go_wp2_with fail
      go_ret
      exact ⟨int_eq (by rw [hx.out, List.take_length]), hbel⟩
end Go.Proofs.YtdnnjahdcabdmaaGreatDoor
