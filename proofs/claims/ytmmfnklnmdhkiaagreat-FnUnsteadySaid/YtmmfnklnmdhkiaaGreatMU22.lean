import Derived.Test.YtmmfnklnmdhkiaaGreatMU21
import Derived.Test.YtmmfnklnmdhkiaaGreatMU09
/- TideStep and TideRun where all is valid, in the program and in the reference. -/
namespace Go.Proofs.YtmmfnklnmdhkiaaGreat
open Go.ChangeShapes Go.WideShapes Go.ChangeAt Go.RowKit
set_option linter.unusedVariables false
set_option linter.unusedSimpArgs false
attribute [local irreducible] Calls
/-- A ground and the numbers of a tide, all valid. -/
structure TOk (g : Gr) (m a b part : Nat) : Prop where
  ok : g.ok
  valid : validG g = true
  pm : plain m = true
  pa : plain a = true
  pb : plain b = true
  pp : plain part = true
set_option maxRecDepth 100000 in
set_option maxHeartbeats 400000 in
theorem tideOk_any (g : Gr) (q m a b part : Nat) (ho : TOk g m a b part) (w : World) (hb : GAt w q g) :
    Calls Tryz.prog 56 #[.pointer (some ⟨q, 0, none⟩), .float .f32 m, .complex .f32 a b, .float .f32 part] w fun e w' => e = .returned (.bool true) ∧ Below w.heap.size w w' := by
  have hvg := fun w' => validGround_any g ho.ok w'
  have hv := fun w' => validWave_any a b w'
  have hp1 := fun w' => isPlain_any m w'
  have hp2 := fun w' => isPlain_any part w'
  rw [ho.valid] at hvg
  rw [ho.pa, ho.pb] at hv
  rw [ho.pm] at hp1
  rw [ho.pp] at hp2
  clear ho
  go_enter Tryz.func56, Tryz.ntmps56
  go_wp2_with (first | (refine wpList_load_gat rfl rfl rfl row66 hb ?_) | (go_at_call 33; refine (hvg _).mono ?_; rintro e w1 ⟨rfl, hb1⟩) | (go_at_call 68; refine (hv _).mono ?_; rintro e w' ⟨rfl, hw⟩; rw [hw]; clear hw w') | (go_at_call 34; first | (refine (hp1 _).mono ?_; rintro e w' ⟨rfl, hw⟩; rw [hw]; clear hw w') | (refine (hp2 _).mono ?_; rintro e w' ⟨rfl, hw⟩; rw [hw]; clear hw w')))
  go_ret
  exact ⟨rfl, hb1⟩
set_option maxRecDepth 100000 in
set_option maxHeartbeats 400000 in
theorem l06Given_any (g : Gr) (q m a b part : Nat) (ho : TOk g m a b part) (w : World) (hb : GAt w q g) :
    Calls Tryz.prog 59 #[.pointer (some ⟨q, 0, none⟩), .float .f32 m, .complex .f32 a b, .float .f32 part] w fun e w' => e = .returned (.int .i64 0) ∧ ∃ n, w' = w.drewN n := by
  have hvg := l01Ok_any g q ho.ok w hb
  have hv := fun w' => l06Ok_any a b w'
  have hp1 := fun w' => l01Plain_any m w'
  have hp2 := fun w' => l01Plain_any part w'
  rw [ho.valid] at hvg
  rw [ho.pa, ho.pb] at hv
  rw [ho.pm] at hp1
  rw [ho.pp] at hp2
  clear ho
  go_enter Tryz.func59, Tryz.ntmps59
  go_wp2_with (first | (go_at_call 39; refine hvg.mono ?_; rintro e w1 ⟨rfl, n1, rfl⟩) | (go_at_call 91; refine (hv _).mono ?_; rintro e w' ⟨rfl, hw⟩; rw [hw]; clear hw w') | (go_at_call 47; first | (refine (hp1 _).mono ?_; rintro e w' ⟨rfl, hw⟩; rw [hw]; clear hw w') | (refine (hp2 _).mono ?_; rintro e w' ⟨rfl, hw⟩; rw [hw]; clear hw w')))
  go_ret
  exact ⟨rfl, n1, rfl⟩
theorem hour_in {h : Int} (h0 : 0 ≤ h) (h1 : h ≤ 100000) : (decide (0 ≤ h) && decide (h ≤ 100000)) = true := by simp; omega
set_option maxRecDepth 100000 in
set_option maxHeartbeats 400000 in
theorem tideStep_any (g : Gr) (m a b part : Nat) (h : Int) (ho : TOk g m a b part) (h0 : 0 ≤ h) (h1 : h ≤ 100000) (w : World) :
    Calls Tryz.prog 21 #[.agg g.cells, .float .f32 m, .complex .f32 a b, .int .i64 h, .float .f32 part] w fun e w' => e = .returned (.tuple #[.agg (tidR g (headT m a b h) part).cells, .int .i64 (tidC g (headT m a b h) part)]) ∧ Below w.heap.size w w' := by
  have hok := fun q w' hb => tideOk_any g q m a b part ho w' hb
  have hi := fun w' => isHour_any h w'
  rw [hour_in h0 h1] at hi
  have ht := fun q w' hb => tide_any g q m a b h part ho.ok ho.valid h0 h1 w' hb
  generalize (tidR g (headT m a b h) part) = R at *
  generalize (tidC g (headT m a b h) part) = V at *
  clear ho
  go_enter Tryz.func21, Tryz.ntmps21
  go_upto_region 1 with (first | (refine wpList_box_as rfl rfl rfl ?_) | (refine wpList_alloc_as rfl rfl zero66z ?_))
  have hA : Blk ((w.alloc (.cells g.cells 30)).alloc (.cells zeroG.cells 30)) w.heap.size g.cells 30 := (Blk.new _ _ _).alloc _
  have hS : Blk ((w.alloc (.cells g.cells 30)).alloc (.cells zeroG.cells 30)) (w.heap.size + 1) zeroG.cells 30 := Blk.new1 _ _ _ _
  have hbel := below2 w (.cells g.cells 30) (.cells zeroG.cells 30)
  generalize ((w.alloc (.cells g.cells 30)).alloc (.cells zeroG.cells 30)) = W at *
  go_wp2_with (first | (go_at_call 56; refine (hok _ _ hA.gat).mono ?_; rintro e w1 ⟨rfl, hb1⟩; have hA1 := hA.below hb1 hA.lt; have hS1 := hS.below hb1 hS.lt) | (go_at_call 57; refine (hi _).mono ?_; rintro e w' ⟨rfl, hw⟩; rw [hw]; clear hw w') | (go_at_call 58; refine (ht _ _ hA1.gat).mono ?_; rintro e w2 ⟨rfl, hb2⟩; have hS2 := hS1.below hb2 hS1.lt) | (refine wpList_store_blk rfl rfl rfl rfl row66 hS2 zeroG.size (Gr.size _) (Gr.one _) ?_))
  refine bodyPost_row2 rfl rfl row66 (hS2.setRow _) (Gr.size _) rfl ⟨rfl, below_setRow (hbel.trans (hb1.trans (hb2.mono hb1.size) |>.mono hbel.size)) (by omega) _⟩
set_option maxRecDepth 100000 in
set_option maxHeartbeats 400000 in
theorem specTideStep_any (g : Gr) (m a b part : Nat) (h : Int) (ho : TOk g m a b part) (h0 : 0 ≤ h) (h1 : h ≤ 100000) (w : World) :
    Calls Tryz.prog 22 #[.agg g.cells, .float .f32 m, .complex .f32 a b, .int .i64 h, .float .f32 part] w fun e w' => e = .returned (.tuple #[.agg (tidR g (headT m a b h) part).cells, .int .i64 (tidC g (headT m a b h) part)]) ∧ Below w.heap.size w w' := by
  have hok := fun q w' hb => l06Given_any g q m a b part ho w' hb
  have hi := fun w' => l06Hour_any h w'
  rw [hour_in h0 h1] at hi
  have ht := fun q w' hb => l06Tidal_any g q m a b h part ho.ok ho.valid h0 h1 w' hb
  generalize (tidR g (headT m a b h) part) = R at *
  generalize (tidC g (headT m a b h) part) = V at *
  clear ho
  go_enter Tryz.func22, Tryz.ntmps22
  go_upto_region 1 with (first | (refine wpList_box_as rfl rfl rfl ?_) | (refine wpList_alloc_as rfl rfl zero66z ?_))
  have hA : Blk ((w.alloc (.cells g.cells 30)).alloc (.cells zeroG.cells 30)) w.heap.size g.cells 30 := (Blk.new _ _ _).alloc _
  have hS : Blk ((w.alloc (.cells g.cells 30)).alloc (.cells zeroG.cells 30)) (w.heap.size + 1) zeroG.cells 30 := Blk.new1 _ _ _ _
  have hbel := below2 w (.cells g.cells 30) (.cells zeroG.cells 30)
  generalize ((w.alloc (.cells g.cells 30)).alloc (.cells zeroG.cells 30)) = W at *
  go_wp2_with (first | (go_at_call 59; refine (hok _ _ hA.gat).mono ?_; rintro e w1 ⟨rfl, n1, rfl⟩) | (go_at_call 60; refine (hi _).mono ?_; rintro e w' ⟨rfl, hw⟩; rw [hw]; clear hw w') | (go_at_call 61; refine (ht _ _ (hA.drewN n1).gat).mono ?_; rintro e w2 ⟨rfl, hb2⟩; have hS2 := (hS.drewN n1).below hb2 hS.lt) | (refine wpList_store_blk rfl rfl rfl rfl row66 hS2 zeroG.size (Gr.size _) (Gr.one _) ?_))
  have hbd := below_drewN hbel n1
  refine bodyPost_row2 rfl rfl row66 (hS2.setRow _) (Gr.size _) rfl ⟨rfl, below_setRow (hbd.trans (hb2.mono hbd.size)) (by omega) _⟩
end Go.Proofs.YtmmfnklnmdhkiaaGreat
/- Tide steps one after the other, with what is seen behind each (tides), and TideRun. -/
namespace Go.Proofs.YtmmfnklnmdhkiaaGreat
open Go.ChangeShapes Go.WideShapes Go.ChangeAt Go.RowKit
set_option linter.unusedVariables false
set_option linter.unusedSimpArgs false
attribute [local irreducible] Calls
/-- The ground behind k tide steps, and the code. -/
def tidTo (g : Gr) (m a b part : Nat) : Nat → Gr × Int
  | 0 => (g, 0)
  | k + 1 => if (tidTo g m a b part k).2 = 0 then (tidR (tidTo g m a b part k).1 (headT m a b k) part, tidC (tidTo g m a b part k).1 (headT m a b k) part) else tidTo g m a b part k
theorem tidTo_go {g : Gr} {m a b part k : Nat} (h : (tidTo g m a b part k).2 = 0) : tidTo g m a b part (k + 1) = (tidR (tidTo g m a b part k).1 (headT m a b k) part, tidC (tidTo g m a b part k).1 (headT m a b k) part) := by
  show (if _ then _ else _) = _
  rw [if_pos h]
theorem tidTo_stay {g : Gr} {m a b part k : Nat} (h : (tidTo g m a b part k).2 ≠ 0) : ∀ n, k ≤ n → tidTo g m a b part n = tidTo g m a b part k
  | 0, hn => by obtain rfl : k = 0 := by omega
                rfl
  | n + 1, hn => by
    by_cases hk : k = n + 1
    · rw [hk]
    · have e := tidTo_stay h n (by omega)
      have e2 : tidTo g m a b part (n + 1) = if (tidTo g m a b part n).2 = 0 then (tidR (tidTo g m a b part n).1 (headT m a b n) part, tidC (tidTo g m a b part n).1 (headT m a b n) part) else tidTo g m a b part n := rfl
      rw [e2, e, if_neg h]
theorem tidR_zero {g : Gr} {H part : Nat} (h : tidC g H part = 0) : plain H = true ∧ stepIs (tidG g H) part = true ∧ tidR g H part = stepG (tidG g H) part := by
  unfold tidC at h
  unfold tidR
  cases hp : plain H
  · rw [hp] at h; cases h
  · rw [hp, if_pos rfl] at h
    rw [if_pos rfl]
    unfold stepC at h
    unfold stepR
    cases hs : stepIs (tidG g H) part
    · rw [hs] at h; cases h
    · exact ⟨rfl, rfl, rfl⟩
theorem tidR_tok {g : Gr} {m a b part H : Nat} (ho : TOk g m a b part) (h : tidC g H part = 0) : TOk (tidR g H part) m a b part := by
  obtain ⟨h1, h2, h3⟩ := tidR_zero h
  rw [h3]
  refine ⟨⟨ho.ok.wide, ho.ok.high, ho.ok.fix⟩, ?_, ho.pm, ho.pa, ho.pb, ho.pp⟩
  unfold stepIs at h2
  exact (Bool.and_eq_true_iff.1 h2).2
theorem tidTo_tok {g : Gr} {m a b part : Nat} (ho : TOk g m a b part) : ∀ k, (tidTo g m a b part k).2 = 0 → TOk (tidTo g m a b part k).1 m a b part
  | 0, _ => ho
  | k + 1, h => by
    by_cases hk : (tidTo g m a b part k).2 = 0
    · rw [tidTo_go hk] at h ⊢
      exact tidR_tok (tidTo_tok ho k hk) h
    · rw [tidTo_stay hk (k + 1) (by omega)] at h; exact absurd h hk
/-- What a run gives. -/
def runG (g : Gr) (m a b part n : Nat) : Gr := if (tidTo g m a b part n).2 = 0 then (tidTo g m a b part n).1 else zeroG
def runC (g : Gr) (m a b part n : Nat) : Int := (tidTo g m a b part n).2
/-- Blocks that hold no ground are as they were. -/
def KeepNG (w w' : World) : Prop := ∀ (r : Nat) (C : Array Value) (t : TypeId), w.heap[r]? = some (.cells C t (0, 0)) → t ≠ 30 → w'.heap[r]? = some (.cells C t (0, 0))
/-- Blocks that hold a ground are as they were. -/
def KeepG (w w' : World) : Prop := ∀ (r : Nat) (C : Array Value), w.heap[r]? = some (.cells C 30 (0, 0)) → w'.heap[r]? = some (.cells C 30 (0, 0))
theorem KeepNG.below {w w' : World} (h : Below w.heap.size w w') : KeepNG w w' := fun r C t hr _ => (h.block r (lt_of_block hr)).trans hr
theorem KeepG.below {w w' : World} (h : Below w.heap.size w w') : KeepG w w' := fun r C hr => (h.block r (lt_of_block hr)).trans hr
theorem KeepNG.row {w : World} {q : Nat} {C : Array Value} (D : Array Value) (h : Blk w q C 30) : KeepNG w (w.setRow q D) := fun r C' t hr ht => by
  have hne : r ≠ q := fun e => by
    subst e
    have h2 : w.heap[r]? = some (.cells C 30 (0, 0)) := h
    rw [h2] at hr; injection hr with hr; injection hr with _ hr; exact ht hr.symm
  exact (setRow_other w q r D hne).trans hr
theorem KeepNG.trans {w w' w'' : World} (h : KeepNG w w') (h' : KeepNG w' w'') : KeepNG w w'' := fun r C t hr ht => h' r C t (h r C t hr ht) ht
set_option maxRecDepth 100000 in
set_option maxHeartbeats 1000000 in
theorem tides_any (g : Gr) (m a b part n : Nat) (hn : n ≤ 400) (ho : TOk g m a b part) (fid : Nat) (cap : Array Value) (hf : Callable Tryz.prog fid) (J : Nat → World → Prop) (w0 w : World) (hb0 : Below w0.heap.size w0 w) (hJ0 : J 0 w) (hJm : ∀ k w1 w2, J k w1 → KeepNG w1 w2 → J k w2)
    (hcall : ∀ k q w1, k < n → (tidTo g m a b part (k + 1)).2 = 0 → J k w1 → Blk w1 q (tidTo g m a b part (k + 1)).1.cells 30 → Below w0.heap.size w0 w1 → Calls Tryz.prog fid (#[.pointer (some ⟨q, 0, none⟩)] ++ cap) w1 fun e w2 => ∃ v, e = .returned v ∧ J (k + 1) w2 ∧ KeepG w1 w2 ∧ Below w0.heap.size w0 w2) :
    Calls Tryz.prog 62 #[.agg g.cells, .float .f32 m, .complex .f32 a b, .float .f32 part, .int .i64 n, .func (.func fid) #[] cap] w fun e w' => e = .returned (.tuple #[.agg (runG g m a b part n).cells, .int .i64 (runC g m a b part n)]) ∧ Below w0.heap.size w0 w' ∧ (runC g m a b part n = 0 → J n w') := by
  have HC := Lib.hid hcall
  have HJ := Lib.hid hJm
  have HO := Lib.hid ho
  clear hcall hJm
  go_enter Tryz.func62, Tryz.ntmps62
  go_upto_region 1 with (first | (refine wpList_box_as rfl rfl rfl ?_) | (refine wpList_alloc_as rfl rfl zero66z ?_))
  have hA : Blk ((w.alloc (.cells g.cells 30)).alloc (.cells zeroG.cells 30)) w.heap.size g.cells 30 := (Blk.new _ _ _).alloc _
  have hS : Blk ((w.alloc (.cells g.cells 30)).alloc (.cells zeroG.cells 30)) (w.heap.size + 1) zeroG.cells 30 := Blk.new1 _ _ _ _
  have hbel := below2 w (.cells g.cells 30) (.cells zeroG.cells 30)
  generalize ((w.alloc (.cells g.cells 30)).alloc (.cells zeroG.cells 30)) = W at *
  have hJ1 := HJ.out 0 w W hJ0 (KeepNG.below hbel)
  have hbW := hb0.trans (hbel.mono hb0.size)
  have hz := hb0.size
  have hn0 : (0 : Int) ≤ n := by omega
  have hn4 : (n : Int) ≤ 400 := by omega
  clear hJ0 hbel hb0 ho
  go_upto_region 2 with fail
  go_loopw [18] (fun i wr => ∃ k : Nat, k ≤ n ∧ i = .int .i64 k ∧ Hid ((tidTo g m a b part k).2 = 0) ∧ Blk wr w.heap.size (tidTo g m a b part k).1.cells 30 ∧ Blk wr (w.heap.size + 1) zeroG.cells 30 ∧ J k wr ∧ Below w0.heap.size w0 wr) (fun i _ => n - (intOf i).toNat)
  case atStart => exact ⟨0, by omega, rfl, Lib.hid rfl, hA, hS, hJ1, hbW⟩
  case round =>
    clear hA hS hJ1 hbW
    obtain ⟨k, hk, rfl, hc0, hA, hS, hJ, hbW⟩ := hrel
    by_cases hlt : k < n
    · have bk : (0 : Int) ≤ k := by omega
      have bl : (k : Int) < n := by omega
      have ho := tidTo_tok HO.out k hc0.out
      have ht := tide_any (tidTo g m a b part k).1 w.heap.size m a b k part ho.ok ho.valid bk (by omega) wr hA.gat
      have hgo := tidTo_go hc0.out
      clear ho
      obtain ⟨R, hR⟩ : ∃ R, R = tidR (tidTo g m a b part k).1 (headT m a b k) part := ⟨_, rfl⟩
      obtain ⟨V, hV⟩ : ∃ V, V = tidC (tidTo g m a b part k).1 (headT m a b k) part := ⟨_, rfl⟩
      rw [← hR, ← hV] at ht hgo
      have HGO := Lib.hid hgo
      clear hR hV hgo
      have lA := hA.lt
      have lS := hS.lt
      go_upto_region 5 with (first | (go_at_call 58; refine ht.mono ?_; rintro e w1 ⟨rfl, hb1⟩) | (refine wpList_alloc_as rfl rfl zero66z ?_) | (refine wpList_store_last rfl rfl rfl rfl rfl (by rw [Gr.size]; kernel_rfl) (by rw [Gr.size, Gr.size]) (List.all_eq_true.2 (Gr.one _)) ?_))
      have hba := hb1.alloc hb1.size (.cells R.cells 30)
      have hN := Blk.new w1 R.cells 30
      have hqN : wr.heap.size ≤ w1.heap.size := hb1.size
      generalize w1.alloc (.cells R.cells 30) = W2 at *
      generalize w1.heap.size = qN at *
      have hA := hA.below hba lA
      have hS := hS.below hba lS
      have hJ := HJ.out k _ _ hJ (KeepNG.below hba)
      have hbW := hbW.trans (hba.mono hbW.size)
      clear hb1 hba ht
      by_cases hV0 : V = 0
      · subst hV0
        have hJ := HJ.out k _ _ hJ (KeepNG.row R.cells hA)
        have hS2 := hS.rowOther (g := w.heap.size) R.cells (by omega)
        have hbW2 := below_setRow hbW hz R.cells
        have hA2 := hA.setRow R.cells
        have hcl := HC.out k w.heap.size (W2.setRow w.heap.size R.cells) hlt (by rw [HGO.out]) hJ (by rw [HGO.out]; exact hA2) hbW2
        have H0 : Hid ((tidTo g m a b part (k + 1)).2 = 0) := Lib.hid (by rw [HGO.out])
        go_wp2_with (first | (refine wpList_load_blk rfl rfl rfl row66 hN (Gr.size _) ?_) | (refine wpList_store_blk rfl rfl rfl rfl row66 hA (Gr.size _) (Gr.size _) (Gr.one _) ?_) | (refine wpList_callv (cap := cap) (l := [.pointer (some ⟨w.heap.size, 0, none⟩)]) rfl rfl rfl rfl hf ?_; refine hcl.mono ?_; rintro e w5 ⟨v, rfl, hJ5, hK5, hb5⟩; refine ⟨_, rfl, ?_⟩))
        have hA5 : Blk w5 w.heap.size R.cells 30 := hK5 _ _ hA2
        have hS5 : Blk w5 (w.heap.size + 1) zeroG.cells 30 := hK5 _ _ hS2
        go_roundw
        case rel => exact ⟨k + 1, by omega, by go_num, H0, by rw [HGO.out]; exact hA5, hS5, hJ5, hb5⟩
        case measure => simp [intOf]; omega
      · have hVb : (V != 0) = true := by simp [hV0]
        have HV : Hid (runG g m a b part n = zeroG ∧ runC g m a b part n = V) := Lib.hid (by
          have e := tidTo_stay (g := g) (m := m) (a := a) (b := b) (part := part) (k := k + 1) (by rw [HGO.out]; exact hV0) n (by omega)
          unfold runG runC
          rw [e, HGO.out]
          exact ⟨if_neg hV0, rfl⟩)
        go_wp2_with (first | (refine wpList_zero rfl rfl built66 ?_) | (refine wpList_store_blk rfl rfl rfl rfl row66 hS zeroG.size zeroG.size zeroG.one ?_))
        refine bodyPost_row2 rfl rfl row66 (hS.setRow _) zeroG.size rfl ⟨?_, below_setRow hbW (by omega) _, fun h => absurd (HV.out.2.symm.trans h) hV0⟩
        rw [HV.out.1, HV.out.2]; rfl
    · obtain rfl : k = n := by omega
      have hJn := HJ.out k _ _ hJ (KeepNG.row (tidTo g m a b part k).1.cells hS)
      go_wp2_with (first | (refine wpList_load_blk rfl rfl rfl row66 hA (Gr.size _) ?_) | (refine wpList_store_blk rfl rfl rfl rfl row66 hS zeroG.size (Gr.size _) (Gr.one _) ?_))
      refine bodyPost_row2 rfl rfl row66 (hS.setRow _) (Gr.size _) rfl ⟨?_, below_setRow hbW (by omega) _, fun _ => hJn⟩
      unfold runG runC; rw [if_pos hc0.out, hc0.out]; rfl
theorem callRun : Callable Tryz.prog 63 := ⟨_, Tryz.func63, by kernel_rfl, by kernel_rfl⟩
set_option maxRecDepth 100000 in
set_option maxHeartbeats 400000 in
theorem tideRun1_any (q : Nat) (w : World) :
    Calls Tryz.prog 63 (#[.pointer (some ⟨q, 0, none⟩)] ++ #[]) w fun e w' => ∃ v, e = .returned v ∧ w' = w := by
  show Calls Tryz.prog 63 #[.pointer (some ⟨q, 0, none⟩)] w _
  go_enter Tryz.func63, Tryz.ntmps63
  go_wp2_with fail
  go_end0
  exact ⟨_, rfl, rfl⟩
theorem stp_in {n : Nat} (h : n ≤ 400) : isStp n = true := by unfold isStp; simp; omega
set_option maxRecDepth 100000 in
set_option maxHeartbeats 400000 in
theorem tideRun_any (g : Gr) (m a b part n : Nat) (hn : n ≤ 400) (ho : TOk g m a b part) (w : World) :
    Calls Tryz.prog 23 #[.agg g.cells, .float .f32 m, .complex .f32 a b, .float .f32 part, .int .i64 n] w fun e w' => e = .returned (.tuple #[.agg (runG g m a b part n).cells, .int .i64 (runC g m a b part n)]) ∧ Below w.heap.size w w' := by
  have hok := fun q w' hb => tideOk_any g q m a b part ho w' hb
  have hi := fun w' => isSteps_any n w'
  rw [stp_in hn] at hi
  have ht := fun w' => tides_any g m a b part n hn ho 63 #[] callRun (fun _ _ => True) w' w' (Below.refl _ _) trivial (fun _ _ _ _ _ => trivial) (fun k q w1 _ _ _ _ hb => (tideRun1_any q w1).mono fun e w2 ⟨v, he, hw⟩ => ⟨v, he, trivial, by rw [hw]; exact KeepG.below (Below.refl _ _), by rw [hw]; exact hb⟩)
  generalize runG g m a b part n = R at *
  generalize runC g m a b part n = V at *
  clear ho
  go_enter Tryz.func23, Tryz.ntmps23
  go_upto_region 1 with (first | (refine wpList_box_as rfl rfl rfl ?_) | (refine wpList_alloc_as rfl rfl zero66z ?_))
  have hA : Blk ((w.alloc (.cells g.cells 30)).alloc (.cells zeroG.cells 30)) w.heap.size g.cells 30 := (Blk.new _ _ _).alloc _
  have hS : Blk ((w.alloc (.cells g.cells 30)).alloc (.cells zeroG.cells 30)) (w.heap.size + 1) zeroG.cells 30 := Blk.new1 _ _ _ _
  have hbel := below2 w (.cells g.cells 30) (.cells zeroG.cells 30)
  generalize ((w.alloc (.cells g.cells 30)).alloc (.cells zeroG.cells 30)) = W at *
  go_wp2_with (first | (refine wpList_load_blk rfl rfl rfl row66 hA1 (Gr.size _) ?_) | (go_at_call 56; refine (hok _ _ hA.gat).mono ?_; rintro e w1 ⟨rfl, hb1⟩; have hA1 := hA.below hb1 hA.lt; have hS1 := hS.below hb1 hS.lt) | (go_at_call 42; refine (hi _).mono ?_; rintro e w' ⟨rfl, hw⟩; rw [hw]; clear hw w') | (go_at_call 62; refine (ht _).mono ?_; rintro e w2 ⟨rfl, hb2, _⟩; have hS2 := hS1.below hb2 hS1.lt) | (refine wpList_store_blk rfl rfl rfl rfl row66 hS2 zeroG.size (Gr.size _) (Gr.one _) ?_))
  refine bodyPost_row2 rfl rfl row66 (hS2.setRow _) (Gr.size _) rfl ⟨rfl, below_setRow (hbel.trans (hb1.trans (hb2.mono hb1.size) |>.mono hbel.size)) (by omega) _⟩
set_option maxRecDepth 100000 in
set_option maxHeartbeats 1000000 in
theorem specTideRun_any (g : Gr) (m a b part n : Nat) (hn : n ≤ 400) (ho : TOk g m a b part) (w : World) :
    Calls Tryz.prog 24 #[.agg g.cells, .float .f32 m, .complex .f32 a b, .float .f32 part, .int .i64 n] w fun e w' => e = .returned (.tuple #[.agg (runG g m a b part n).cells, .int .i64 (runC g m a b part n)]) ∧ Below w.heap.size w w' := by
  have hok := fun q w' hb => l06Given_any g q m a b part ho w' hb
  have hi := fun w' => l06Steps_any n w'
  rw [stp_in hn] at hi
  have HO := Lib.hid ho
  have hn0 : (0 : Int) ≤ n := by omega
  have hn4 : (n : Int) ≤ 400 := by omega
  clear ho
  go_enter Tryz.func24, Tryz.ntmps24
  go_upto_region 1 with (first | (refine wpList_box_as rfl rfl rfl ?_) | (refine wpList_alloc_as rfl rfl zero66z ?_))
  have hA : Blk ((w.alloc (.cells g.cells 30)).alloc (.cells zeroG.cells 30)) w.heap.size g.cells 30 := (Blk.new _ _ _).alloc _
  have hS : Blk ((w.alloc (.cells g.cells 30)).alloc (.cells zeroG.cells 30)) (w.heap.size + 1) zeroG.cells 30 := Blk.new1 _ _ _ _
  have hbel := below2 w (.cells g.cells 30) (.cells zeroG.cells 30)
  generalize ((w.alloc (.cells g.cells 30)).alloc (.cells zeroG.cells 30)) = W at *
  go_upto_region 5 with (first | (go_at_call 59; refine (hok _ _ hA.gat).mono ?_; rintro e w1 ⟨rfl, n1, rfl⟩) | (go_at_call 43; refine (hi _).mono ?_; rintro e w' ⟨rfl, hw⟩; rw [hw]; clear hw w'))
  have hA := hA.drewN n1
  have hS := hS.drewN n1
  have hbel := below_drewN hbel n1
  generalize W.drewN n1 = W1 at *
  clear hok hi
  go_loopw [12, 13] (fun c i wr => ∃ k : Nat, k ≤ n ∧ i = .int .i64 k ∧ c = .int .i64 (tidTo g m a b part k).2 ∧ ((tidTo g m a b part k).2 ≠ 0 → Hid (tidTo g m a b part n = tidTo g m a b part k)) ∧ Blk wr w.heap.size (tidTo g m a b part k).1.cells 30 ∧ Blk wr (w.heap.size + 1) zeroG.cells 30 ∧ Below w.heap.size w wr) (fun _ i _ => n - (intOf i).toNat)
  case atStart => exact ⟨0, by omega, rfl, rfl, fun h => absurd rfl h, hA, hS, hbel⟩
  case round =>
    clear hA hS hbel
    obtain ⟨k, hk, rfl, rfl, hst, hA, hS, hbel⟩ := hrel
    by_cases hc0 : (tidTo g m a b part k).2 = 0
    · have HC0 := Lib.hid hc0
      by_cases hlt : k < n
      · have bk : (0 : Int) ≤ k := by omega
        have bl : (k : Int) < n := by omega
        have ho := tidTo_tok HO.out k hc0
        have ht := l06Tidal_any (tidTo g m a b part k).1 w.heap.size m a b k part ho.ok ho.valid bk (by omega) wr hA.gat
        have HGO := Lib.hid (tidTo_go hc0)
        have HST : Hid ((tidTo g m a b part (k + 1)).2 ≠ 0 → Hid (tidTo g m a b part n = tidTo g m a b part (k + 1))) := Lib.hid fun h => Lib.hid (tidTo_stay h n (by omega))
        clear ho hst
        rw [hc0]
        clear hc0
        have lA := hA.lt
        have lS := hS.lt
        go_wp2_with (first | (go_at_call 61; refine ht.mono ?_; rintro e w1 ⟨rfl, hb1⟩; have hA1 := hA.below hb1 lA) | (refine wpList_store_blk rfl rfl rfl rfl row66 hA1 (Gr.size _) (Gr.size _) (Gr.one _) ?_))
        go_roundw
        case rel => exact ⟨k + 1, by omega, by go_num, by rw [HGO.out], HST.out, by rw [HGO.out]; exact hA1.setRow _, (hS.below hb1 lS).rowOther _ (by omega), below_setRow (hbel.trans (hb1.mono hbel.size)) (Nat.le_refl _) _⟩
        case measure => simp [intOf]; omega
      · obtain rfl : k = n := by omega
        rw [hc0]
        clear hc0 hst
        go_wp2_with (first | (refine wpList_load_blk rfl rfl rfl row66 hA (Gr.size _) ?_) | (refine wpList_store_blk rfl rfl rfl rfl row66 hS zeroG.size (Gr.size _) (Gr.one _) ?_))
        refine bodyPost_row2 rfl rfl row66 (hS.setRow _) (Gr.size _) rfl ⟨?_, below_setRow hbel (by omega) _⟩
        unfold runG runC; rw [if_pos HC0.out, HC0.out]; rfl
    · have hV : Hid (runG g m a b part n = zeroG ∧ runC g m a b part n = (tidTo g m a b part k).2) := Lib.hid (by
        unfold runG runC
        rw [(hst hc0).out]
        exact ⟨if_neg hc0, rfl⟩)
      have hc1 : ((tidTo g m a b part k).2 == 0) = false := by simp [hc0]
      have hc2 : ((tidTo g m a b part k).2 != 0) = true := by simp [hc0]
      clear hst
      generalize (tidTo g m a b part k).2 = V at *
      by_cases hlt : k < n
      · have bl : (k : Int) < n := by omega
        go_wp2_with (first | (refine wpList_zero rfl rfl built66 ?_) | (refine wpList_store_blk rfl rfl rfl rfl row66 hS zeroG.size zeroG.size zeroG.one ?_))
        refine bodyPost_row2 rfl rfl row66 (hS.setRow _) zeroG.size rfl ⟨?_, below_setRow hbel (by omega) _⟩
        rw [hV.out.1, hV.out.2]; rfl
      · have bl : ¬ (k : Int) < n := by omega
        go_wp2_with (first | (refine wpList_zero rfl rfl built66 ?_) | (refine wpList_store_blk rfl rfl rfl rfl row66 hS zeroG.size zeroG.size zeroG.one ?_))
        refine bodyPost_row2 rfl rfl row66 (hS.setRow _) zeroG.size rfl ⟨?_, below_setRow hbel (by omega) _⟩
        rw [hV.out.1, hV.out.2]; rfl
end Go.Proofs.YtmmfnklnmdhkiaaGreat
/- Settled heads: the walks through the program's function and the reference's. -/
namespace Go.Proofs.YtmmfnklnmdhkiaaGreat
open Go.ChangeShapes Go.WideShapes Go.ChangeAt Go.RowKit
set_option linter.unusedVariables false
set_option linter.unusedSimpArgs false
attribute [local irreducible] Calls

theorem bes_no {g : Gr} {c s : Nat} (hsm : g.small) (h : nbr g c s = false) : bes g c s = -1 := by
  have := bes_lt hsm c s; unfold nbr at h; simp at h; omega

end Go.Proofs.YtmmfnklnmdhkiaaGreat
