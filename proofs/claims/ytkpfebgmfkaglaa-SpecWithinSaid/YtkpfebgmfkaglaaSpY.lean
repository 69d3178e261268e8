/- SpecOrder, SpecWindows: the statements. -/
import Derived.Test.YtkpfebgmfkaglaaSpX
import Derived.Deep.CutRange
import Derived.Deep.CutBlock
set_option linter.unusedSimpArgs false
set_option linter.unusedVariables false
namespace Go.Proofs.Ytkpfebgmfkaglaa
open Go.RowKit
attribute [local irreducible] wpMix

theorem tr_given {W : World} {cs : List Value} (h : Tr Try.prog W 35 cs) : ∃ g : Gv, cs = gC g ∧ wfG g := by
  obtain ⟨hl, hf⟩ := h.struct Try.underlying35
  rw [show Try.prog.cellsOf 35 = 3 by kernel_rfl] at hl
  have h0 : Tr Try.prog W 3 ((cs.drop 0).take (Try.prog.cellsOf 3)) := hf 0 _ rfl
  have h1 : Tr Try.prog W 3 ((cs.drop 1).take (Try.prog.cellsOf 3)) := hf 1 _ rfl
  have h2 : Tr Try.prog W 9 ((cs.drop 2).take (Try.prog.cellsOf 9)) := hf 2 _ rfl
  obtain ⟨a, ha, wa⟩ := Tr.int Try.underlying3 h0
  obtain ⟨b, hb, wb⟩ := Tr.int Try.underlying3 h1
  obtain ⟨s, hs, _⟩ := Tr.string Try.underlying9 h2
  rw [show Try.prog.cellsOf 3 = 1 by kernel_rfl] at ha hb
  rw [show Try.prog.cellsOf 9 = 1 by kernel_rfl] at hs
  clear h h0 h1 h2 hf
  match cs, hl with
  | [x, y, z], _ =>
    simp at ha hb hs
    exact ⟨(a, b, s), by rw [ha, hb, hs]; rfl, wa, wb⟩
theorem tr_packet {W : World} {cs : List Value} (h : Tr Try.prog W 38 cs) : ∃ p : Pk, cs = pC p ∧ wfG p.2.1 := by
  obtain ⟨hl, hf⟩ := h.struct Try.underlying38
  rw [show Try.prog.cellsOf 38 = 5 by kernel_rfl] at hl
  have h0 : Tr Try.prog W 36 ((cs.drop 0).take (Try.prog.cellsOf 36)) := hf 0 _ rfl
  have h1 : Tr Try.prog W 3 ((cs.drop 1).take (Try.prog.cellsOf 3)) := hf 1 _ rfl
  have h2 : Tr Try.prog W 3 ((cs.drop 2).take (Try.prog.cellsOf 3)) := hf 2 _ rfl
  have h3 : Tr Try.prog W 9 ((cs.drop 3).take (Try.prog.cellsOf 9)) := hf 3 _ rfl
  have h4 : Tr Try.prog W 36 ((cs.drop 4).take (Try.prog.cellsOf 36)) := hf 4 _ rfl
  obtain ⟨n, hn, _⟩ := Tr.int Try.underlying36 h0
  obtain ⟨a, ha, wa⟩ := Tr.int Try.underlying3 h1
  obtain ⟨b, hb, wb⟩ := Tr.int Try.underlying3 h2
  obtain ⟨s, hs, _⟩ := Tr.string Try.underlying9 h3
  obtain ⟨m, hm, _⟩ := Tr.int Try.underlying36 h4
  rw [show Try.prog.cellsOf 36 = 1 by kernel_rfl] at hn hm
  rw [show Try.prog.cellsOf 3 = 1 by kernel_rfl] at ha hb
  rw [show Try.prog.cellsOf 9 = 1 by kernel_rfl] at hs
  clear h h0 h1 h2 h3 h4 hf
  match cs, hl with
  | [x0, x, y, z, x4], _ =>
    simp at hn ha hb hs hm
    exact ⟨(n, (a, b, s), m), by rw [hn, ha, hb, hs, hm]; rfl, wa, wb⟩

theorem flat_one {α : Type} (f : α → Value) : ∀ l : List α, l.flatMap (fun n => [f n]) = l.map f
  | [] => rfl
  | x :: l => by rw [List.flatMap_cons, flat_one f l]; rfl

/-- A slice cut to a length. -/
theorem sl_cut {α : Type} {F : α → List Value} {s : Nat} (hF : ∀ x, (F x).length = s) {w : World} {A : Option Addr} {cap : Nat} {l : List α} (h : SlAt w s (.slice A l.length cap) l.length (l.flatMap F)) (k : Nat) (hk : k ≤ l.length) :
    SlAt w s (.slice A k cap) (l.take k).length ((l.take k).flatMap F) := by
  obtain ⟨A', cap', he, ht⟩ := h.take k hk
  cases he
  rw [flat_take F s hF] at ht
  rw [List.length_take, Nat.min_eq_left hk]
  exact ht

set_option maxRecDepth 100000 in
set_option maxHeartbeats 4000000 in
theorem order_any (A1 : Option Addr) (cap1 : Nat) (gs : List Gv) (A2 : Option Addr) (cap2 : Nat) (acc : List Pk) (w : World) (hc1 : gs.length ≤ cap1 ∧ cap1 ≤ maxLen) (hc2 : acc.length ≤ cap2 ∧ cap2 ≤ maxLen)
    (h1 : SlAt w 3 (.slice A1 gs.length cap1) gs.length (gs.flatMap gC)) (hg : ∀ g ∈ gs, wfG g) (h2 : SlAt w 5 (.slice A2 acc.length cap2) acc.length (acc.flatMap pC)) (hw : ∀ p ∈ acc, wfG p.2.1) :
    Calls Try.prog 3 #[.slice A1 gs.length cap1, .slice A2 acc.length cap2] w fun e w' => e = .returned (.bool true) ∧ Below w.heap.size w w' := by
  have HF := Lib.hid (And.intro h1 (And.intro hg (And.intro h2 hw)))
  clear h1 hg h2 hw
  obtain ⟨hc1, hm1⟩ := hc1
  obtain ⟨hc2, hm2⟩ := hc2
  unfold maxLen at hm1 hm2
  have hd1 : (gs.length : Int) ≤ 60 ∨ (60 : Int) < gs.length := by omega
  have hd2 : (acc.length : Int) ≤ 80 ∨ (80 : Int) < acc.length := by omega
  go_enter Try.func3, Try.ntmps3
  go_upto_region 1 with fail
  go_cut [0] from 5 to 9 (fun v wx => (∃ n : Nat, v = .slice A1 n cap1 ∧ n ≤ 60 ∧ n ≤ gs.length) ∧ wx = w)
  case first =>
    rcases hd1 with hd1 | hd1
    · go_wp2_with fail
      all_goals (go_meet; refine ⟨⟨_, rfl, ?_, ?_⟩, rfl⟩ <;> omega)
    · go_wp2_with fail
      all_goals (go_meet; refine ⟨⟨_, rfl, ?_, ?_⟩, rfl⟩ <;> omega)
  case rest =>
    obtain ⟨⟨n1, rfl, hn1, hn1'⟩, rfl⟩ := hcut
    clear hd1
    go_upto_region 2 with fail
    go_cut [1] from 10 to 14 (fun v wx => (∃ n : Nat, v = .slice A2 n cap2 ∧ n ≤ 80 ∧ n ≤ acc.length) ∧ wx = wc)
    case first =>
      rcases hd2 with hd2 | hd2
      · go_wp2_with fail
        all_goals (go_meet; refine ⟨⟨_, rfl, ?_, ?_⟩, rfl⟩ <;> omega)
      · go_wp2_with fail
        all_goals (go_meet; refine ⟨⟨_, rfl, ?_, ?_⟩, rfl⟩ <;> omega)
    case rest =>
      obtain ⟨⟨n2, rfl, hn2, hn2'⟩, rfl⟩ := hcut
      clear hd2
      have HS := Lib.hid (And.intro (sl_cut gC_len HF.out.1 n1 hn1') (And.intro (sl_cut pC_len HF.out.2.2.1 n2 hn2') (And.intro (show ∀ g ∈ gs.take n1, wfG g from fun g hg => HF.out.2.1 g (List.mem_of_mem_take hg)) (And.intro (show ∀ p ∈ acc.take n2, wfG p.2.1 from fun p hp => HF.out.2.2.2 p (List.mem_of_mem_take hp)) (show (acc.take n2).length ≤ 1000000 by simp; omega)))))
      generalize gs.take n1 = gs' at *
      generalize acc.take n2 = acc' at *
      generalize hx : firstF stepP (ofK (acc'.map (·.2.1))) gs' 0 = x at *
      generalize hy : firstF stepW (ofK (acc'.map (·.2.1))) gs' 0 = y at *
      have HXY := Lib.hid (And.intro hx hy)
      clear hx hy
      go_wp2_with fail
      have p1 := Prefix_ok _ _ gs' acc' wc HS.out.1 HS.out.2.2.1 HS.out.2.1 HS.out.2.2.2.1 HS.out.2.2.2.2
      rw [HXY.out.1] at p1
      refine p1.mono ?_
      clear p1
      rintro e w1 ⟨rfl, b1⟩
      have B1 := Lib.hid b1
      clear b1
      go_wp2_with fail
      have p1 := refPrefix_ok _ _ gs' acc' w1 (HS.out.1.below B1.out) (HS.out.2.1.below B1.out) HS.out.2.2.2.2
      rw [HXY.out.1] at p1
      refine p1.mono ?_
      clear p1
      rintro e w2 ⟨rfl, b2⟩
      have B2 := Lib.hid (B1.out.trans (b2.mono B1.out.size))
      clear b2
      go_wp2_with fail
      have p1 := Within_ok _ _ gs' acc' w2 (HS.out.1.below B2.out) HS.out.2.2.1 (HS.out.2.1.below B2.out) HS.out.2.2.2.1 HS.out.2.2.2.2
      rw [HXY.out.2] at p1
      refine p1.mono ?_
      clear p1
      rintro e w3 ⟨rfl, b3⟩
      have B3 := Lib.hid (B2.out.trans (b3.mono B2.out.size))
      clear b3
      go_wp2_with fail
      have p1 := refWithin_ok _ _ gs' acc' w3 (HS.out.1.below B3.out) (HS.out.2.1.below B3.out) HS.out.2.2.2.2
      rw [HXY.out.2] at p1
      refine p1.mono ?_
      clear p1
      rintro e w4 ⟨rfl, b4⟩
      have B4 := Lib.hid (B3.out.trans (b4.mono B3.out.size))
      clear b4
      go_wp2_with fail
      refine (works_yes _).mono ?_
      rintro e w5 ⟨rfl, b5⟩
      have B5 := Lib.hid (B4.out.trans (b5.mono B4.out.size))
      clear b5
      go_wp2_with fail
      go_ret
      exact ⟨rfl, B5.out⟩

theorem SpecOrder_walk (v0 v1 : Value) (W : World) (c0 : Came Try.prog W 22 v0) (c1 : Came Try.prog W 23 v1) :
    Calls Try.prog 3 #[v0, v1] W fun e w' => e = .returned (.bool true) ∧ Below W.heap.size W w' := by
  obtain ⟨gs, h1, hg⟩ := Came.list Try.underlying22 (by kernel_rfl) (by decide) c0 gC gC_len wfG (fun cs h => tr_given h)
  obtain ⟨acc, h2, hw⟩ := Came.list Try.underlying23 (by kernel_rfl) (by decide) c1 pC pC_len (fun p => wfG p.2.1) (fun cs h => tr_packet h)
  obtain ⟨A1, cap1, rfl, hc1⟩ := h1.len
  obtain ⟨A2, cap2, rfl, hc2⟩ := h2.len
  exact order_any A1 cap1 gs A2 cap2 acc W hc1 hc2 h1 hg h2 hw

set_option maxRecDepth 100000 in
set_option maxHeartbeats 4000000 in
theorem windows_any (A1 : Option Addr) (cap1 : Nat) (l : List Int) (d r : Int) (w : World) (hc1 : l.length ≤ cap1 ∧ cap1 ≤ maxLen)
    (h1 : SlAt w 1 (.slice A1 l.length cap1) l.length (l.map (Value.int .i64))) :
    Calls Try.prog 4 #[.slice A1 l.length cap1, .int .i64 d, .int .i64 r] w fun e w' => e = .returned (.bool true) ∧ Below w.heap.size w w' := by
  have HF := Lib.hid h1
  clear h1
  obtain ⟨hc1, hm1⟩ := hc1
  unfold maxLen at hm1
  have hd1 : (l.length : Int) ≤ 200 ∨ (200 : Int) < l.length := by omega
  go_enter Try.func4, Try.ntmps4
  go_upto_region 1 with fail
  go_cut [0] from 7 to 11 (fun v wx => (∃ n : Nat, v = .slice A1 n cap1 ∧ n ≤ 200 ∧ n ≤ l.length) ∧ wx = w)
  case first =>
    rcases hd1 with hd1 | hd1
    · go_wp2_with fail
      all_goals (go_meet; refine ⟨⟨_, rfl, ?_, ?_⟩, rfl⟩ <;> omega)
    · go_wp2_with fail
      all_goals (go_meet; refine ⟨⟨_, rfl, ?_, ?_⟩, rfl⟩ <;> omega)
  case rest =>
    obtain ⟨⟨n1, rfl, hn1, hn1'⟩, rfl⟩ := hcut
    clear hd1
    have hs : SlAt wc 1 (.slice A1 n1 cap1) (l.take n1).length ((l.take n1).map (Value.int .i64)) := by
      obtain ⟨A', cap', he, ht⟩ := HF.out.take n1 hn1'
      cases he
      rw [Nat.mul_one, ← List.map_take] at ht
      rw [List.length_take, Nat.min_eq_left hn1']
      exact ht
    have HS := Lib.hid (And.intro hs (show (l.take n1).length ≤ 1000000 by simp; omega))
    clear hs
    generalize l.take n1 = l' at *
    generalize hx : winR l' (smallF d) (smallF r) = x at *
    have HX := Lib.hid hx
    clear hx
    go_wp2_with fail
    have p1 := windows_ok _ l' d r wc HS.out.1 HS.out.2
    rw [HX.out] at p1
    refine p1.mono ?_
    clear p1
    rintro e w1 ⟨rfl, rfl⟩
    go_wp2_with fail
    have p1 := rwindows_ok _ l' d r wc HS.out.1 HS.out.2
    rw [HX.out] at p1
    refine p1.mono ?_
    clear p1
    rintro e w1 ⟨rfl, rfl⟩
    go_wp2_with fail
    refine (works_yes _).mono ?_
    rintro e w5 ⟨rfl, b5⟩
    have B5 := Lib.hid b5
    clear b5
    go_wp2_with fail
    go_ret
    exact ⟨rfl, B5.out⟩

theorem SpecWindows_walk (v0 v1 v2 : Value) (W : World) (c0 : Came Try.prog W 27 v0) (c1 : Came Try.prog W 3 v1) (c2 : Came Try.prog W 3 v2) :
    Calls Try.prog 4 #[v0, v1, v2] W fun e w' => e = .returned (.bool true) ∧ Below W.heap.size W w' := by
  obtain ⟨l, h1, _⟩ := Came.list Try.underlying27 (by kernel_rfl) (by decide) c0 (fun n : Int => [.int .i64 n]) (fun _ => rfl) (fun _ => True) (fun cs h => by
    obtain ⟨n, rfl, _⟩ := Tr.int Try.underlying3 h
    exact ⟨n, rfl, trivial⟩)
  obtain ⟨d, rfl, _⟩ := c1.int Try.underlying3
  obtain ⟨r, rfl, _⟩ := c2.int Try.underlying3
  obtain ⟨A1, cap1, rfl, hc1⟩ := h1.len
  have e : l.flatMap (fun n : Int => [Value.int .i64 n]) = l.map (Value.int .i64) := by
    exact flat_one _ l
  rw [e] at h1
  exact windows_any A1 cap1 l d r W hc1 h1

end Go.Proofs.Ytkpfebgmfkaglaa
