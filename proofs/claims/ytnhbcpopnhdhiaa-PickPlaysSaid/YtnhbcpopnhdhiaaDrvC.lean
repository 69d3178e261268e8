import Derived.Test.YtnhbcpopnhdhiaaDrvB
import Derived.Deep.LoopGhost
import Derived.Deep.WholeRow
set_option linter.unusedSimpArgs false
set_option linter.unusedVariables false
namespace Go.Proofs.Ytnhbcpopnhdhiaa
open Go.RowKit
attribute [local go_sem] Oper.semAt_some

theorem modes_any (A : Option Addr) (len cap : Nat) (w : World) :
    Calls Try.prog 34 #[.slice A len cap] w fun e w' => e = .returned (.func (.func 39) #[] #[.pointer (some ⟨w.heap.size, 0, none⟩)]) ∧ w.alloc (.cells #[.slice A len cap] 58) = w' := by
  go_enter Try.func34, Try.ntmps34
  go_wp2
  go_ret
  exact ⟨rfl, rfl⟩

def wants (zs : List Int) : Nat → Bool := fun m => (modesOf zs).any (·.1 == m)

/-- What Next leaves. -/
def NextPost (q : Int) (df : Nat → Int) (pt : Nat) (fed : Bool) (zs : List Int) (cost weight : Nat → Int) (b : Nat) (w : World) (e : Ending) (w' : World) : Prop :=
  Below w.heap.size w w' ∧
  ((modesOf zs = [] ∧ e = .returned (.tuple #[.int .i64 0, .pointer (some ⟨b, 0, none⟩)])) ∨
   (modesOf zs ≠ [] ∧ ∃ bx df' pt' fed', NextR q (wants zs) cost weight df pt fed (df', pt', fed') ∧ Dok df' ∧ (1 ≤ pt' ∧ pt' ≤ 28) ∧
      e = .returned (.tuple #[.int .i64 (pt' : Int), .pointer (some ⟨bx, 0, none⟩)]) ∧ w.heap.size ≤ bx ∧ Blk w' bx 51 (dCells q df' pt' fed')))

theorem fn_nil (f : Fn) (x y : Array Value) (w : World) : (binOp .eql 29 (.func f x y) .nilFunc).run Try.prog w = .ok (.bool false) w := by
  cases f <;> kernel_rfl

set_option maxHeartbeats 1000000 in
theorem next_any (b : Nat) (w : World) (q : Int) (df : Nat → Int) (pt : Nat) (fed : Bool) (hp : 1 ≤ pt ∧ pt ≤ 28) (hq : 1000 ≤ q ∧ q ≤ 1000000) (hdf : Dok df) (hB : Blk w b 51 (dCells q df pt fed))
    (A : Option Addr) (len cap : Nat) (zs : List Int) (hlen : zs.length = len) (hm : len ≤ 9223372036854775807) (hR : Rd w w.heap.size A (zs.map (Value.int .i64)))
    (cost weight : Nat → Int) (vc vw : Value) (hvc : FnInt w cost vc) (hvw : FnInt w weight vw) :
    Calls Try.prog 27 #[.pointer (some ⟨b, 0, none⟩), .slice A len cap, vc, vw] w (NextPost q df pt fed zs cost weight b w) := by
  obtain ⟨Kc, fc, cc, rfl, hce, hcc⟩ := hvc
  obtain ⟨Kw, fw, cw, rfl, hwe, hwc⟩ := hvw
  have hfn := fn_nil
  refine calls_of_marks Try.func27 rfl ?_
  simp only [Try.ntmps27, List.size_toArray, List.length_cons, List.length_nil, Nat.reduceAdd, Nat.reduceSub, Array.replicate_succ, Array.replicate_zero, List.push_toArray, List.append_toArray, List.nil_append, List.cons_append]
  go_wp2_with fail
  refine (modes_any _ _ _ _).mono ?_
  rintro e w' ⟨rfl, rfl⟩
  go_wp2_with fail
  generalize hW0 : World.alloc _ _ = W0
  have hW0le : w.heap.size ≤ W0.heap.size := by rw [← hW0]; simp; omega
  have hsz0 : W0.heap.size = w.heap.size + 5 := by rw [← hW0]; simp
  have hb0 : Below w.heap.size w W0 := by
    rw [← hW0]
    exact (((((Below.refl _ _).alloc (Nat.le_refl _) _).alloc (by simp) _).alloc (by simp; omega) _).alloc (by simp; omega) _).alloc (by simp; omega) _
  have hk0 : Blk W0 w.heap.size 29 #[.func (.func Kc) fc cc] := by rw [← hW0]; exact ((((Blk.new _ _ _).alloc _).alloc _).alloc _).alloc _
  have hk1 : Blk W0 (w.heap.size + 1) 29 #[.func (.func Kw) fw cw] := by
    rw [← hW0]; exact ((((Blk.new (w.alloc _) _ _).same_g (by simp)).alloc _).alloc _).alloc _
  have hk2 : Blk W0 (w.heap.size + 2) 65 (wCells fun _ => false) := by
    rw [← hW0]; exact (((Blk.new ((w.alloc _).alloc _) _ _).same_g (by simp)).alloc _).alloc _
  have hk3 : Blk W0 (w.heap.size + 3) 4 #[.bool false] := by
    rw [← hW0]; exact ((Blk.new (((w.alloc _).alloc _).alloc _) _ _).same_g (by simp)).alloc _
  have hk4 : Blk W0 (w.heap.size + 4) 58 #[.slice A len cap] := by
    rw [← hW0]; exact (Blk.new ((((w.alloc _).alloc _).alloc _).alloc _) _ _).same_g (by simp)
  clear hW0
  refine' wp_range_plain (encs := fun (x : Md) => #[.int .i64 (x.1 : Int)]) (n0 := w.heap.size) (T := (· = w.heap.size + 4)) (xs := modesOf zs) rfl (enters_of Try.func39 (by kernel_rfl) rfl)
    (modes1_iter (w.heap.size + 4) w.heap.size A len cap zs hlen W0 hm (hk4.cell 0) hk4.lt (hR.below hb0) (by omega)) (by omega) (by rintro k rfl; omega) (fun _ => rfl)
    (fun pre W => Below w.heap.size w W ∧ Blk W w.heap.size 29 #[.func (.func Kc) fc cc] ∧ Blk W (w.heap.size + 1) 29 #[.func (.func Kw) fw cw] ∧
      Blk W (w.heap.size + 2) 65 (wCells fun m => pre.any (·.1 == m)) ∧ Blk W (w.heap.size + 3) 4 #[.bool (!pre.isEmpty)])
    (fun _ _ _ => False) _ ?hI (fun _ _ _ _ h _ => h) ?h0 ?assign ?body ?done (fun _ _ _ _ h => h.elim)
  case hI =>
    refine (Ign.below (by omega) (by intro k hk; omega)).and (.and (.blk ?_) (.and (.blk ?_) (.and (.blk ?_) (.blk ?_)))) <;> (intro _; omega)
  case h0 => exact ⟨hb0, hk0, hk1, hk2, hk3⟩
  case assign =>
    intro l x W K hK
    gi_wp2
    exact hK
  case body =>
    rintro l pre x W hpre ⟨hb, k0, k1, k2, k3⟩ hsz
    have hx := x.2
    have hc2 := (k2.cell x.1).trans (wCells_at _ _ (by omega))
    have hc3 := k3.cell 0
    have hf2 := k2.frozen
    have hf3 := k3.frozen
    have HX := Lib.hid (And.intro hb (And.intro k0 (And.intro k1 (And.intro k2 k3))))
    clear hb k0 k1 k2 k3
    gi_wp2
    obtain ⟨hb, k0, k1, k2, k3⟩ := HX.out
    refine ⟨?_, ?_, ?_, ?_, ?_, ?_⟩
    · refine (Keep.setCell (p := ⟨w.heap.size + 2, x.1, none⟩) _ (by simp) (by simp; omega) _).trans (Keep.setCell (p := ⟨w.heap.size + 3, 0, none⟩) _ (by simp) (by simp; omega) _)
    · exact (hb.setCell (p := ⟨w.heap.size + 2, x.1, none⟩) (by simp) _).setCell (p := ⟨w.heap.size + 3, 0, none⟩) (by simp) _
    · exact (k0.far (p := ⟨w.heap.size + 2, x.1, none⟩) (by simp) _).far (p := ⟨w.heap.size + 3, 0, none⟩) (by simp) _
    · exact (k1.far (p := ⟨w.heap.size + 2, x.1, none⟩) (by simp) _).far (p := ⟨w.heap.size + 3, 0, none⟩) (by simp) _
    · refine ((k2.set_ x.1 _).far (p := ⟨w.heap.size + 3, 0, none⟩) (by simp) _).same ?_
      rw [wCells_set _ _ (by omega)]
      congr 1
      funext m
      by_cases hm : m = x.1
      · simp [hm]
      · simp [hm, Ne.symm hm]
    · refine ((k3.far (p := ⟨w.heap.size + 2, x.1, none⟩) (by simp) _).set_ 0 _).same ?_
      simp
  case done =>
    rintro W ⟨hb, k0, k1, k2, k3⟩ hK
    have hc3 := k3.cell 0
    by_cases hz : modesOf zs = []
    · have hz' : (!(modesOf zs).isEmpty) = false := by simp [hz]
      rw [hz'] at hc3
      have HZ := Lib.hid hz
      clear hz hz'
      go_wp2_with fail
      refine marks_ret1 hK (results_tmp2 rfl _ _ _) ⟨?_, .inl ⟨HZ.out, rfl⟩⟩
      exact (But.putObj (S := fun _ => False) (.of_below hb) _ (fun h => by omega)).below (fun _ _ h => h) (Nat.le_refl _)
    · have hz' : (!(modesOf zs).isEmpty) = true := by simp [hz]
      rw [hz'] at hc3
      have hkb : Blk W b 51 (dCells q df pt fed) := hB.below hb hB.lt
      have HZ := Lib.hid hz
      have HK := Lib.hid hK
      have HB := Lib.hid hb
      have hlb := hkb.lt
      have hszW : w.heap.size + 5 < W.heap.size := by have := (Array.getElem?_eq_some_iff.1 hK).1; omega
      clear hz hz' hK hb hsz0 hb0 hk0 hk1 hk2 hk3 hk4 hR
      go_wp2_with (first
        | (refine wpList_load_row rfl 51 (.tmp 35) rfl b rfl 51 (dCells q df pt fed) (0, 0) _ hkb Try.underlying51 rfl (by rw [dCells_size]; kernel_rfl) ?_)
        | (refine wpList_store_row rfl 51 (.tmp 13) (.tmp 36) rfl _ (dCells q df pt fed) rfl rfl 51 _ (Blk.new _ _ _) (by rw [dCells_size]; kernel_rfl) (by rw [dCells_size]; rfl) (dCells_one ..) ?_))
      obtain ⟨m0, hm0, hm1⟩ : ∃ m0, wants zs m0 = true ∧ (1 ≤ m0 ∧ m0 ≤ 28) := by
        cases hl : modesOf zs with
        | nil => exact absurd hl HZ.out
        | cons x l => exact ⟨x.1, by simp [wants, hl], x.2⟩
      have hx1 : Blk ((W.alloc (.cells (dCells 0 (fun _ => 0) 0 false) 51)).setRow W.heap.size (dCells q df pt fed)) W.heap.size 51 (dCells q df pt fed) := by
        rw [World.setRow_alloc_new]; exact Blk.new _ _ _
      have hbw : Below W.heap.size W ((W.alloc (.cells (dCells 0 (fun _ => 0) 0 false) 51)).setRow W.heap.size (dCells q df pt fed)) := by
        rw [World.setRow_alloc_new]; exact (Below.refl _ _).alloc (Nat.le_refl _) _
      generalize hW1 : World.setRow _ _ _ = W1
      have hx1' : Blk W1 W.heap.size 51 (dCells q df pt fed) := by rw [← hW1]; exact hx1
      have hbw' : Below W.heap.size W W1 := by rw [← hW1]; exact hbw
      clear hx1 hbw hW1 hc3 hkb hfn
      have HM := Lib.hid hm0
      clear hm0
      go_loopg [38, 39, 40, 41] (mu m0 df pt fed) (fun g s38 s39 s40 s41 wr => ∃ df' pt' fed', mu m0 df' pt' fed' ≤ g ∧ Below W.heap.size W wr ∧ Blk wr W.heap.size 51 (dCells q df' pt' fed') ∧ Dok df' ∧ (1 ≤ pt' ∧ pt' ≤ 28) ∧
        (∀ r, NextR q (wants zs) cost weight df' pt' fed' r → NextR q (wants zs) cost weight df pt fed r))
      case atStart => exact ⟨df, pt, fed, Nat.le_refl _, hbw', hx1', hdf, hp, fun _ h => h⟩
      case round =>
        obtain ⟨df', pt', fed', hg, hbr, hxr, hdr, hpr, hnr⟩ := hrel
        have ht := turn_any W.heap.size w.heap.size (w.heap.size + 1 + 1) (w.heap.size + 1) wr q df' pt' fed' (wants zs) cost weight _ _ hpr.1 hpr.2 ⟨by omega, hq.2⟩ hdr hxr
          (k0.below hbr k0.lt) (k2.below hbr k2.lt) (k1.below hbr k1.lt) ⟨Kc, fc, cc, rfl, hce, fun m W' hW' => hcc m W' ((HB.out.trans (hbr.mono HB.out.size)).trans (hW'.mono (Nat.le_trans HB.out.size hbr.size)))⟩ ⟨Kw, fw, cw, rfl, hwe, fun m W' hW' => hwc m W' ((HB.out.trans (hbr.mono HB.out.size)).trans (hW'.mono (Nat.le_trans HB.out.size hbr.size)))⟩ (by omega)
        have HT := Lib.hid ht
        have HN := Lib.hid hnr
        have HC := Lib.hid hcc
        have HW := Lib.hid hwc
        clear ht hnr hcc hwc hce hwe k0 k1 k2 k3
        go_wp2_with fail
        refine HT.out.mono ?_
        rintro e w2 ⟨rfl, hb2, hx2⟩
        cases hbv : (turnD q df' pt' fed' (wants zs) cost weight).1 with
        | false =>
          have HV := Lib.hid hbv
          clear hbv
          go_wp2_with fail
          refine (on_any _ _ _ _ _ _ hpr.2 hx2).mono ?_
          rintro e w3 ⟨rfl, hb3, hx3⟩
          go_wp2_with fail
          go_roundg (mu m0 (turnD q df' pt' fed' (wants zs) cost weight).2.1 (pt' % 28 + 1) false)
          case measure => exact Nat.lt_of_lt_of_le (mu_on hq.1 hm1 hpr HM.out HV.out) hg
          case rel =>
            have b2 : Below W.heap.size W w2 := hbr.trans (hb2.below (by rintro k hk rfl; omega) hbr.size)
            have b3 : Below W.heap.size W w3 := b2.trans (hb3.below (by rintro k hk rfl; omega) b2.size)
            exact ⟨_, _, _, Nat.le_refl _, b3, hx3, hdr.turn ⟨by omega, hq.2⟩, by omega, fun r hr => HN.out r (NextR.on HV.out hr)⟩
        | true =>
          have HV := Lib.hid hbv
          clear hbv
          have hpt := (hx2.cell 30).trans (dCells_at ..)
          go_wp2_with fail
          have b2 : Below W.heap.size W w2 := hbr.trans (hb2.below (by rintro k hk rfl; omega) hbr.size)
          have hDlt : W0.heap.size < W.heap.size := heap_lt HK.out
          refine marks_ret1 ((b2.block _ hDlt).trans HK.out) (results_tmp2 rfl _ _ _) ⟨?_, .inr ⟨HZ.out, W.heap.size, _, _, _, HN.out _ (NextR.stop HV.out), hdr.turn ⟨by omega, hq.2⟩, hpr, rfl, by omega, hx2.putObj _ (by omega)⟩⟩
          have b4 : Below w.heap.size w w2 := HB.out.trans (b2.mono HB.out.size)
          exact (But.putObj (S := fun _ => False) (.of_below b4) _ (fun h => by omega)).below (fun _ _ h => h) (Nat.le_refl _)

end Go.Proofs.Ytnhbcpopnhdhiaa
