/- The chapter's rows: they stand. -/
import Derived.Test.YtkpfebgmfkaglaaSpG
import Derived.Test.YtkpfebgmfkaglaaSpW
set_option linter.unusedSimpArgs false
set_option linter.unusedVariables false
namespace Go.Proofs.Ytkpfebgmfkaglaa
open Go.RowKit
attribute [local irreducible] wpMix

theorem SlAt.new (W : World) (t : TypeId) (cs : Array Value) (size n : Nat) (xs : List Value) (hx : xs = cs.toList) (hn : xs.length = n * size) (hm : n ≤ maxLen) (g : Nat) (hg : W.heap.size = g) : SlAt (W.alloc (.cells cs t)) size (.slice (Option.some ⟨g, 0, none⟩) n n) n xs := by
  subst hx
  subst hg
  refine ⟨hn, _, n, rfl, Nat.le_refl _, hm, .inr ⟨W.heap.size, 0, rfl, by simp, fun j u hj => ?_⟩⟩
  rw [Nat.zero_add, (Blk.new W t cs).cell, ← Array.getElem?_toList]; exact hj
theorem gvOf_wf (x : ByteArray) : wfG (gvOf x) := by unfold gvOf; split <;> exact ⟨rfl, rfl⟩
theorem gvs_wf (xs : List ByteArray) : ∀ g ∈ xs.map gvOf, wfG g := fun g hg => by
  obtain ⟨x, _, rfl⟩ := List.mem_map.1 hg
  exact gvOf_wf x
theorem pks_wf {l : List Gv} (h : ∀ g ∈ l, wfG g) (n : Nat) : ∀ p ∈ pksOf l n, wfG p.2.1 := fun p hp => by
  refine h _ ?_
  have := List.mem_map_of_mem (f := fun p : Pk => p.2.1) hp
  rwa [pksOf_gv] at this

/-- What was accepted. -/
def accL : List Gv := ([⟨#[97]⟩, ⟨#[98]⟩, ⟨#[99]⟩, ⟨#[97]⟩] : List ByteArray).map gvOf

theorem row0 : firstF stepP (ofK ((pksOf accL 0).map (·.2.1))) (([⟨#[97]⟩, ⟨#[99]⟩, ⟨#[98]⟩] : List ByteArray).map gvOf) 0 = -1 := by decide +kernel
theorem row1 : firstF stepP (ofK ((pksOf accL 0).map (·.2.1))) (([⟨#[97]⟩, ⟨#[97]⟩] : List ByteArray).map gvOf) 0 = 1 := by decide +kernel
theorem row2 : firstF stepP (ofK ((pksOf accL 0).map (·.2.1))) (([⟨#[99]⟩, ⟨#[99]⟩] : List ByteArray).map gvOf) 0 = 1 := by decide +kernel
theorem row3 : firstF stepW (ofK ((pksOf accL 0).map (·.2.1))) (([⟨#[98]⟩, ⟨#[97]⟩, ⟨#[99]⟩] : List ByteArray).map gvOf) 0 = -1 := by decide +kernel
theorem row4 : firstF stepW (ofK ((pksOf accL 0).map (·.2.1))) (([⟨#[98]⟩, ⟨#[98]⟩] : List ByteArray).map gvOf) 0 = 1 := by decide +kernel
theorem row5 : firstF stepW (ofK ((pksOf accL 0).map (·.2.1))) (([⟨#[97]⟩, ⟨#[97]⟩] : List ByteArray).map gvOf) 0 = -1 := by decide +kernel
theorem row6 : winR [5, 5, 5] (smallF 10) (smallF 1) = 2 := by decide +kernel
theorem row7 : winR [5, 5, 5] (smallF 4) (smallF 2) = 1 := by decide +kernel

set_option maxRecDepth 100000 in
set_option maxHeartbeats 4000000 in
theorem works_yes (w : World) : Calls Try.prog 11 #[] w fun e w' => e = .returned (.bool true) ∧ Below w.heap.size w w' := by
  go_enter Try.func11, Try.ntmps11
  go_wp2_with fail
  have ha := accepted_ok _ [⟨#[97]⟩, ⟨#[98]⟩, ⟨#[99]⟩, ⟨#[97]⟩] _ (SlAt.new w 9 #[.string ⟨#[97]⟩, .string ⟨#[98]⟩, .string ⟨#[99]⟩, .string ⟨#[97]⟩] 1 4 _ rfl rfl (by decide) _ rfl) (by decide)
  refine ha.mono ?_
  clear ha
  rintro e w0 ⟨hb0, vl, rfl, hl⟩
  have hb : Below w.heap.size w w0 := ((Below.refl _ _).alloc (Nat.le_refl _) _).trans (hb0.mono (by simp))
  have HL := Lib.hid hl
  have H0 := Lib.hid (And.intro (Below.refl w0.heap.size w0) hb)
  clear hb0 hl hb
  go_wp2_with fail
  have hg := given_ok _ [⟨#[97]⟩, ⟨#[99]⟩, ⟨#[98]⟩] _ (SlAt.new w0 9 #[.string ⟨#[97]⟩, .string ⟨#[99]⟩, .string ⟨#[98]⟩] 1 3 _ rfl rfl (by decide) _ rfl) (by decide)
  refine hg.mono ?_
  clear hg
  rintro e v1 ⟨hb, vg, rfl, hg⟩
  have hs0 := H0.out.1.size
  have hs1 := H0.out.2.size
  have hbl : Below w0.heap.size w0 v1 := H0.out.1.trans (((Below.refl _ _).alloc (Nat.le_refl _) _).mono hs0 |>.trans (hb.mono (by first | (simp; done) | (simp; omega))))
  have hbw : Below w.heap.size w v1 := H0.out.2.trans (((Below.refl _ _).alloc (Nat.le_refl _) _).mono hs1 |>.trans (hb.mono (by first | (simp; done) | (simp; omega))))
  have G := Lib.hid (And.intro hbl (And.intro hbw hg))
  clear hb hg hbl hbw hs0 hs1
  go_wp2_with fail
  have hc := Prefix_ok _ vl _ (pksOf accL 0) _ G.out.2.2 (gvs_wf _) (HL.out.below G.out.1) (pks_wf (gvs_wf _) 0) (by decide)
  rw [row0] at hc
  refine hc.mono ?_
  clear hc
  rintro e w1 ⟨rfl, hb⟩
  have H1 := Lib.hid (And.intro (G.out.1.trans (hb.mono G.out.1.size)) (G.out.2.1.trans (hb.mono G.out.2.1.size)))
  clear hb G H0
  go_wp2_with fail
  have hg := given_ok _ [⟨#[97]⟩, ⟨#[97]⟩] _ (SlAt.new w1 9 #[.string ⟨#[97]⟩, .string ⟨#[97]⟩] 1 2 _ rfl rfl (by decide) _ rfl) (by decide)
  refine hg.mono ?_
  clear hg
  rintro e v2 ⟨hb, vg, rfl, hg⟩
  have hs0 := H1.out.1.size
  have hs1 := H1.out.2.size
  have hbl : Below w0.heap.size w0 v2 := H1.out.1.trans (((Below.refl _ _).alloc (Nat.le_refl _) _).mono hs0 |>.trans (hb.mono (by first | (simp; done) | (simp; omega))))
  have hbw : Below w.heap.size w v2 := H1.out.2.trans (((Below.refl _ _).alloc (Nat.le_refl _) _).mono hs1 |>.trans (hb.mono (by first | (simp; done) | (simp; omega))))
  have G := Lib.hid (And.intro hbl (And.intro hbw hg))
  clear hb hg hbl hbw hs0 hs1
  go_wp2_with fail
  have hc := Prefix_ok _ vl _ (pksOf accL 0) _ G.out.2.2 (gvs_wf _) (HL.out.below G.out.1) (pks_wf (gvs_wf _) 0) (by decide)
  rw [row1] at hc
  refine hc.mono ?_
  clear hc
  rintro e w2 ⟨rfl, hb⟩
  have H2 := Lib.hid (And.intro (G.out.1.trans (hb.mono G.out.1.size)) (G.out.2.1.trans (hb.mono G.out.2.1.size)))
  clear hb G H1
  go_wp2_with fail
  have hg := given_ok _ [⟨#[99]⟩, ⟨#[99]⟩] _ (SlAt.new w2 9 #[.string ⟨#[99]⟩, .string ⟨#[99]⟩] 1 2 _ rfl rfl (by decide) _ rfl) (by decide)
  refine hg.mono ?_
  clear hg
  rintro e v3 ⟨hb, vg, rfl, hg⟩
  have hs0 := H2.out.1.size
  have hs1 := H2.out.2.size
  have hbl : Below w0.heap.size w0 v3 := H2.out.1.trans (((Below.refl _ _).alloc (Nat.le_refl _) _).mono hs0 |>.trans (hb.mono (by first | (simp; done) | (simp; omega))))
  have hbw : Below w.heap.size w v3 := H2.out.2.trans (((Below.refl _ _).alloc (Nat.le_refl _) _).mono hs1 |>.trans (hb.mono (by first | (simp; done) | (simp; omega))))
  have G := Lib.hid (And.intro hbl (And.intro hbw hg))
  clear hb hg hbl hbw hs0 hs1
  go_wp2_with fail
  have hc := Prefix_ok _ vl _ (pksOf accL 0) _ G.out.2.2 (gvs_wf _) (HL.out.below G.out.1) (pks_wf (gvs_wf _) 0) (by decide)
  rw [row2] at hc
  refine hc.mono ?_
  clear hc
  rintro e w3 ⟨rfl, hb⟩
  have H3 := Lib.hid (And.intro (G.out.1.trans (hb.mono G.out.1.size)) (G.out.2.1.trans (hb.mono G.out.2.1.size)))
  clear hb G H2
  go_wp2_with fail
  have hg := given_ok _ [⟨#[98]⟩, ⟨#[97]⟩, ⟨#[99]⟩] _ (SlAt.new w3 9 #[.string ⟨#[98]⟩, .string ⟨#[97]⟩, .string ⟨#[99]⟩] 1 3 _ rfl rfl (by decide) _ rfl) (by decide)
  refine hg.mono ?_
  clear hg
  rintro e v4 ⟨hb, vg, rfl, hg⟩
  have hs0 := H3.out.1.size
  have hs1 := H3.out.2.size
  have hbl : Below w0.heap.size w0 v4 := H3.out.1.trans (((Below.refl _ _).alloc (Nat.le_refl _) _).mono hs0 |>.trans (hb.mono (by first | (simp; done) | (simp; omega))))
  have hbw : Below w.heap.size w v4 := H3.out.2.trans (((Below.refl _ _).alloc (Nat.le_refl _) _).mono hs1 |>.trans (hb.mono (by first | (simp; done) | (simp; omega))))
  have G := Lib.hid (And.intro hbl (And.intro hbw hg))
  clear hb hg hbl hbw hs0 hs1
  go_wp2_with fail
  have hc := Within_ok _ vl _ (pksOf accL 0) _ G.out.2.2 (gvs_wf _) (HL.out.below G.out.1) (pks_wf (gvs_wf _) 0) (by decide)
  rw [row3] at hc
  refine hc.mono ?_
  clear hc
  rintro e w4 ⟨rfl, hb⟩
  have H4 := Lib.hid (And.intro (G.out.1.trans (hb.mono G.out.1.size)) (G.out.2.1.trans (hb.mono G.out.2.1.size)))
  clear hb G H3
  go_wp2_with fail
  have hg := given_ok _ [⟨#[98]⟩, ⟨#[98]⟩] _ (SlAt.new w4 9 #[.string ⟨#[98]⟩, .string ⟨#[98]⟩] 1 2 _ rfl rfl (by decide) _ rfl) (by decide)
  refine hg.mono ?_
  clear hg
  rintro e v5 ⟨hb, vg, rfl, hg⟩
  have hs0 := H4.out.1.size
  have hs1 := H4.out.2.size
  have hbl : Below w0.heap.size w0 v5 := H4.out.1.trans (((Below.refl _ _).alloc (Nat.le_refl _) _).mono hs0 |>.trans (hb.mono (by first | (simp; done) | (simp; omega))))
  have hbw : Below w.heap.size w v5 := H4.out.2.trans (((Below.refl _ _).alloc (Nat.le_refl _) _).mono hs1 |>.trans (hb.mono (by first | (simp; done) | (simp; omega))))
  have G := Lib.hid (And.intro hbl (And.intro hbw hg))
  clear hb hg hbl hbw hs0 hs1
  go_wp2_with fail
  have hc := Within_ok _ vl _ (pksOf accL 0) _ G.out.2.2 (gvs_wf _) (HL.out.below G.out.1) (pks_wf (gvs_wf _) 0) (by decide)
  rw [row4] at hc
  refine hc.mono ?_
  clear hc
  rintro e w5 ⟨rfl, hb⟩
  have H5 := Lib.hid (And.intro (G.out.1.trans (hb.mono G.out.1.size)) (G.out.2.1.trans (hb.mono G.out.2.1.size)))
  clear hb G H4
  go_wp2_with fail
  have hg := given_ok _ [⟨#[97]⟩, ⟨#[97]⟩] _ (SlAt.new w5 9 #[.string ⟨#[97]⟩, .string ⟨#[97]⟩] 1 2 _ rfl rfl (by decide) _ rfl) (by decide)
  refine hg.mono ?_
  clear hg
  rintro e v6 ⟨hb, vg, rfl, hg⟩
  have hs0 := H5.out.1.size
  have hs1 := H5.out.2.size
  have hbl : Below w0.heap.size w0 v6 := H5.out.1.trans (((Below.refl _ _).alloc (Nat.le_refl _) _).mono hs0 |>.trans (hb.mono (by first | (simp; done) | (simp; omega))))
  have hbw : Below w.heap.size w v6 := H5.out.2.trans (((Below.refl _ _).alloc (Nat.le_refl _) _).mono hs1 |>.trans (hb.mono (by first | (simp; done) | (simp; omega))))
  have G := Lib.hid (And.intro hbl (And.intro hbw hg))
  clear hb hg hbl hbw hs0 hs1
  go_wp2_with fail
  have hc := Within_ok _ vl _ (pksOf accL 0) _ G.out.2.2 (gvs_wf _) (HL.out.below G.out.1) (pks_wf (gvs_wf _) 0) (by decide)
  rw [row5] at hc
  refine hc.mono ?_
  clear hc
  rintro e w6 ⟨rfl, hb⟩
  have H6 := Lib.hid (And.intro (G.out.1.trans (hb.mono G.out.1.size)) (G.out.2.1.trans (hb.mono G.out.2.1.size)))
  clear hb G H5
  go_wp2_with fail
  have hc := windows_ok _ [5, 5, 5] 10 1 _ (SlAt.new w6 3 #[.int .i64 5, .int .i64 5, .int .i64 5] 1 3 _ rfl rfl (by decide) _ rfl) (by decide)
  rw [row6] at hc
  refine hc.mono ?_
  clear hc
  rintro e w7 ⟨rfl, rfl⟩

  go_wp2_with fail
  have hc := windows_ok _ [5, 5, 5] 4 2 _ (SlAt.new (w6.alloc (.cells #[.int .i64 5, .int .i64 5, .int .i64 5] 3)) 3 #[.int .i64 5, .int .i64 5, .int .i64 5] 1 3 _ rfl rfl (by decide) (w6.heap.size + 1) (by simp)) (by decide)
  rw [row7] at hc
  refine hc.mono ?_
  clear hc
  rintro e w8 ⟨rfl, rfl⟩
  go_wp2_with fail
  go_ret
  have hs := H6.out.2.size
  exact ⟨rfl, (H6.out.2.alloc hs _).alloc (by simp; omega) _⟩

end Go.Proofs.Ytkpfebgmfkaglaa
