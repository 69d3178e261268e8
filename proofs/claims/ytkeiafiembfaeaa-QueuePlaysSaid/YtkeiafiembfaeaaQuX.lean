/- The document's queues: Take, Heads. -/
import Derived.Test.YtkeiafiembfaeaaQuW
set_option linter.unusedSimpArgs false
set_option linter.unusedVariables false
namespace Go.Proofs.Ytkeiafiembfaeaa
open Go.RowKit Go.Shelf
attribute [local irreducible] wpMix

theorem SlAt.cells {w : World} {size n cap : Nat} {ad : Addr} {xs : List Value} (h : SlAt w size (.slice (Option.some ad) n cap) n xs) : ∀ (j : Nat) (u : Value), xs[j]? = Option.some u → w.cell? (ad.add j) = Option.some u := by
  intro j u hj
  rcases Nat.eq_zero_or_pos n with h0 | h0
  · subst h0
    obtain rfl : xs = [] := List.eq_nil_of_length_eq_zero (by simpa using h.1)
    simp at hj
  · obtain ⟨b, o, c, e, _, _, _, hx⟩ := h.some h0
    cases e
    rw [Addr.add_lit]; exact hx j u hj
theorem sliced_some (a : Addr) (l h m s : Nat) : ∃ a', sliced (some a) l h m s = .slice (some a') (h - l) (m - l) := by
  by_cases hm : m = l
  · exact ⟨a, by simp [sliced, hm]⟩
  · exact ⟨a.add (l * s), by simp [sliced, hm]⟩

section
variable {w w' : World} {b : Nat} {n most room last : Int} {v : Value} {L : List Pk} {t c ti : Int} {s : ByteArray}
set_option maxRecDepth 100000 in
set_option maxHeartbeats 4000000 in
theorem rTake (h : RqIs w b n most room last v L) (hL : L.length < 1000000) :
    Calls Try.prog 14 #[ptr b, .int .i64 t, .int .i64 c] w fun e w' => e = .returned (hd (qof L t c)) ∧ RqPut b n most room last v (qdrop L t c) w w' := by
  have H1 := Lib.hid (fun o => rplace (t := t) (c := c) (h.below (w' := w.alloc o) ((Below.refl _ _).alloc (Nat.le_refl _) _)) (by omega))
  have H0 := Lib.hid h
  clear h
  go_enter Try.func14, Try.ntmps14
  go_wp2_with fail
  refine (H1.out _).mono ?_
  rintro e w' ⟨r, hr, rfl, rfl⟩
  generalize hW : World.alloc _ _ = W1
  have bw : Below w.heap.size w W1 := by rw [← hW]; exact (Below.refl _ _).alloc (Nat.le_refl _) _
  have z2 : Blk W1 w.heap.size 37 #[.int .u64 0, .int .i64 0, .int .i64 0, .string ByteArray.empty, .int .u64 0] := by rw [← hW]; exact Blk.new _ _ _
  have hl2 := z2.lt
  have H2 := Lib.hid (And.intro z2 bw)
  clear bw hW
  rcases hr with ⟨l1, p, l2, rfl, hl1, hp, rfl⟩ | ⟨hno, rfl⟩
  · have hR := H0.out.below H2.out.2
    obtain ⟨A, cap, rfl, hcap⟩ := hR.sl.len
    have c3 := hR.blk.cell 3
    obtain ⟨g, off, hA⟩ : ∃ g off, A = some ⟨g, off, none⟩ := by
      obtain ⟨b', o', c', e, _⟩ := hR.sl.sl.some (by rw [List.length_append, List.length_cons]; omega)
      cases e; exact ⟨b', o', rfl⟩
    subst hA
    have hx : (l1 ++ p :: l2)[l1.length]? = some p := by simp
    obtain ⟨e0, e1, e2, e3, e4⟩ := pk_at hR.sl.sl hx
    obtain ⟨m, hq⟩ := (place_some (l2 := l2) hl1 hp).1
    have hlen : (l1.length : Int) < (l1 ++ p :: l2).length := by rw [List.length_append, List.length_cons]; omega
    have hlen' : l1.length < (l1 ++ p :: l2).length := by rw [List.length_append, List.length_cons]; omega
    have HQ := Lib.hid (And.intro hq (place_some (l2 := l2) hl1 hp).2)
    have hN : (l1 ++ p :: l2).length = l1.length + 1 + l2.length := by rw [List.length_append, List.length_cons]; omega
    have HNN := Lib.hid hN
    clear hq hx hR hl1 hp z2 hN
    generalize hNN : (l1 ++ p :: l2).length = N at *
    obtain ⟨no, ⟨pt, pc, ps⟩, pat⟩ := p
    simp only at e0 e1 e2 e3 e4
    have HNE := Lib.hid hNN
    clear hNN
    go_upto_region 5 with fail
    generalize hW : World.alloc _ _ = W3
    have b3 : Below W1.heap.size W1 W3 := by rw [← hW]; exact (Below.refl _ _).alloc (Nat.le_refl _) _
    have y9 : Blk W3 W1.heap.size 37 #[.int .u64 no, .int .i64 pt, .int .i64 pc, .string ps, .int .u64 pat] := by rw [← hW]; exact Blk.new _ _ _
    have hR3 := (H0.out.below H2.out.2).below b3
    have c3 := hR3.blk.cell 3
    have z3 := H2.out.1.below b3 H2.out.1.lt
    have hsl := hR3.sl.sl
    rw [HNE.out] at hsl
    obtain ⟨_, _, hea, htk⟩ := hsl.take l1.length (Nat.le_of_lt hlen')
    cases hea
    have htk2 : ((l1 ++ (no, (pt, pc, ps), pat) :: l2).flatMap pC).take (l1.length * 5) = l1.flatMap pC := by rw [flat_take pC 5 pC_len, List.take_append_of_le_length (Nat.le_refl _), List.take_length]
    rw [htk2] at htk
    have hdp := hsl.drop (l1.length + 1) hlen'
    have hdp2 : ((l1 ++ (no, (pt, pc, ps), pat) :: l2).flatMap pC).drop ((l1.length + 1) * 5) = l2.flatMap pC := by rw [flat_drop pC 5 pC_len]; congr 1; rw [List.drop_append]; simp
    rw [hdp2] at hdp
    have hone : ∀ (l : List Pk), ∀ u ∈ l.flatMap pC, u.oneCell' = true := fun l u hu => by
      obtain ⟨x, _, hx⟩ := List.mem_flatMap.1 hu
      obtain ⟨a, ⟨a1, a2, a3⟩, a4⟩ := x
      simp [pC] at hx; rcases hx with rfl | rfl | rfl | rfl | rfl <;> rfl
    obtain ⟨i0, hi, hz0, hz1, hz2⟩ := info_parts pk_info
    have hl2N : N - (l1.length + 1) = l2.length := by have := HNN.out; omega
    rw [hl2N] at hdp
    have H3 := Lib.hid (And.intro b3 (And.intro y9 (And.intro hR3 (And.intro z3 (And.intro htk (And.intro hdp hl2N))))))
    have HONE := Lib.hid hone
    clear b3 y9 hR3 z3 htk hdp hsl htk2 hdp2 hone hW e0 e1 e2 e3 e4 hl2N
    go_upto_region 7 with (at_builtin; refine wpList_append_own _ rfl (.tmp 25) (.tmp 31) 43 rfl W3.heap.size 37 i0 (.agg #[.int .u64 0, .int .i64 0, .int .i64 0, .string ByteArray.empty, .int .u64 0]) 5 48 Try.underlying43 hi hz0 hz1 hz2 rfl (by decide) (.slice none 0 0) 0 [] rfl (World.ownsRow_nil _ _ _ _) ⟨g, off, none⟩ l1.length cap (l1.flatMap pC) rfl (flat_len pC 5 pC_len _) H3.out.2.2.2.2.1.cells (HONE.out l1) (by unfold maxLen; omega) (by omega) (Nat.le_refl _) ?_; intro v1 w1 ho1 hg1 _)
    rw [Nat.zero_add, List.nil_append] at ho1
    obtain ⟨A1, cap1, rfl, hc1⟩ := (OwnsAt.of_row ho1).len
    have hb1 : Below W3.heap.size W3 w1 := ⟨hg1.os, hg1.tape, hg1.output, hg1.size, fun k hk => hg1.block k hk (by simp [Value.ownBlock])⟩
    have hR1 := H3.out.2.2.1.below hb1
    have c3' := hR1.blk.cell 3
    have f3 := hR1.blk.frozen
    obtain ⟨a', ha'⟩ := sliced_some ⟨g, off, none⟩ (l1.length + 1) N cap 5
    have hdp := H3.out.2.2.2.2.2.1.below hb1
    rw [H3.out.2.2.2.2.2.2] at ha'
    rw [ha'] at hdp
    have HD := Lib.hid (And.intro hdp (And.intro ha' (And.intro ho1 (And.intro hb1 hR1))))
    have hbk : ∀ w2 : World, w1.grownBy w2 (Value.slice A1 l1.length cap1).ownBlock → Blk w2 b 45 #[.int .i64 n, .int .i64 most, .int .i64 room, .slice (some ⟨g, off, none⟩) N cap, .int .u64 last] ∧ Below W3.heap.size W3 w2 := fun w2 hg2 => by
      have hB : Below W3.heap.size w1 w2 := grown_below hg2 (fun k hk => ((OwnsAt.of_row HD.out.2.2.1).lt k hk).1) HD.out.2.2.2.1.size
      have hbl : b < W3.heap.size := Nat.lt_of_lt_of_le H0.out.blk.lt (Nat.le_trans H2.out.2.size H3.out.1.size)
      exact ⟨(hB.block b hbl).trans HD.out.2.2.2.2.blk, HD.out.2.2.2.1.trans hB⟩
    have HBK := Lib.hid hbk
    clear hbk
    have hll : l1.length + l2.length < 1000000 := by have := HNN.out; omega
    clear hdp ha' ho1 hg1 hb1 hR1 c3
    go_upto_region 8 with (first
      | (refine wpList_drop (size := 5) rfl 43 37 (.tmp 38) (.tmp 40) rfl (l1.length + 1) rfl rfl hlen' Try.underlying43 (by kernel_rfl) ?_; rw [HD.out.2.1])
      | (at_builtin; refine wpList_append_own _ rfl (.tmp 34) (.tmp 41) 43 rfl W3.heap.size 37 i0 (.agg #[.int .u64 0, .int .i64 0, .int .i64 0, .string ByteArray.empty, .int .u64 0]) 5 48 Try.underlying43 hi hz0 hz1 hz2 rfl (by decide) (.slice A1 l1.length cap1) l1.length (l1.flatMap pC) rfl HD.out.2.2.1 a' l2.length (cap - (l1.length + 1)) (l2.flatMap pC) rfl (flat_len pC 5 pC_len _) HD.out.1.cells (HONE.out l2) (by unfold maxLen; omega) (by omega) HD.out.2.2.2.1.size ?_; intro v2 w2 ho2 hg2 hv2; obtain ⟨A2, cap2, rfl, hc2⟩ := (OwnsAt.of_row ho2).len; have hR2 := HBK.out w2 hg2; have c5 := hR2.1.cell 3; have f5 := hR2.1.frozen; have HE := Lib.hid (And.intro ho2 (And.intro hg2 hR2)); clear hR2 ho2 hg2 hv2))
    obtain ⟨ho2, hg2, hB2, hb2⟩ := HE.out
    have hbw1 : b < w.heap.size := H0.out.blk.lt
    have hw1s := H2.out.2.size
    have y2 := (H3.out.2.1.below hb2 H3.out.2.1.lt).far (p := ⟨b, 3, none⟩) (show W1.heap.size ≠ b by omega) (.slice A2 (l1.length + l2.length) cap2)
    have z2 := (H3.out.2.2.2.1.below hb2 H3.out.2.2.2.1.lt).far (p := ⟨b, 3, none⟩) (show w.heap.size ≠ b by omega) (.slice A2 (l1.length + l2.length) cap2)
    have d2 := (hB2.set_ 3 (.slice A2 (l1.length + l2.length) cap2)).same (cs' := #[.int .i64 n, .int .i64 most, .int .i64 room, .slice A2 (l1.length + l2.length) cap2, .int .u64 last]) (by simp only [List.setIfInBounds_toArray, List.set_cons_succ, List.set_cons_zero])
    have hbW3 : b < W3.heap.size := by have := H3.out.1.size; omega
    have hlo : ∀ k, (Value.slice A2 (l1.length + l2.length) cap2).ownBlock = some k → W3.heap.size ≤ k := fun k hk => ((OwnsAt.of_row ho2).lt k hk).1
    have s2 := (OwnsAt.of_row ho2).keep (w' := w2.setCell ⟨b, 3, none⟩ (.slice A2 (l1.length + l2.length) cap2)) fun k hk => Below.heap_setCell _ _ _ _ (by have := hlo k hk; rintro rfl; omega)
    have g2 : But (fun k => k = b) w.heap.size w (w2.setCell ⟨b, 3, none⟩ (.slice A2 (l1.length + l2.length) cap2)) := (But.of_below (S := fun k => k = b) (H2.out.2.trans ((H3.out.1.mono hw1s).trans (hb2.mono (Nat.le_trans hw1s H3.out.1.size))))).setCell (p := ⟨b, 3, none⟩) (fun _ => rfl) _
    generalize World.setCell _ _ _ = W5 at y2 z2 d2 s2 g2 ⊢
    have u0 := y2.cell 0
    have u1 := y2.cell 1
    have u2 := y2.cell 2
    have u3 := y2.cell 3
    have u4 := y2.cell 4
    have z0 := z2.cell 0
    have z1 := z2.cell 1
    have z3 := z2.cell 2
    have z4 := z2.cell 3
    have z5 := z2.cell 4
    have k0 := z2.frozen
    have hz2l := z2.lt
    have HF := Lib.hid (And.intro z2 (And.intro d2 (And.intro s2 (And.intro g2 hlo))))
    have hlb5 := d2.lt
    clear y2 z2 d2 s2 g2 ho2 hg2 hB2 hb2 c3' f3 c5 f5 hlo
    go_wp2_with fail
    obtain ⟨z2, d2, s2, g2, hlo⟩ := HF.out
    have hlo' : ∀ k, (Value.slice A2 (l1.length + l2.length) cap2).ownBlock = some k → k ≠ w.heap.size ∧ k ≠ b ∧ w.heap.size ≤ k := fun k hk => by have := hlo k hk; have := H3.out.1.size; omega
    have far : ∀ k, k ≠ w.heap.size → (((((W5.setCell ⟨w.heap.size, 0, none⟩ (.int .u64 no)).setCell ⟨w.heap.size, 1, none⟩ (.int .i64 pt)).setCell ⟨w.heap.size, 2, none⟩ (.int .i64 pc)).setCell ⟨w.heap.size, 3, none⟩ (.string ps)).setCell ⟨w.heap.size, 4, none⟩ (.int .u64 pat)).heap[k]? = W5.heap[k]? := fun k hk =>
      (Below.heap_setCell _ ⟨w.heap.size, 4, none⟩ _ _ hk).trans ((Below.heap_setCell _ ⟨w.heap.size, 3, none⟩ _ _ hk).trans ((Below.heap_setCell _ ⟨w.heap.size, 2, none⟩ _ _ hk).trans ((Below.heap_setCell _ ⟨w.heap.size, 1, none⟩ _ _ hk).trans (Below.heap_setCell _ ⟨w.heap.size, 0, none⟩ _ _ hk))))
    have zf := (((((z2.set_ 0 (.int .u64 no)).set_ 1 (.int .i64 pt)).set_ 2 (.int .i64 pc)).set_ 3 (.string ps)).set_ 4 (.int .u64 pat)).same (cs' := #[.int .u64 no, .int .i64 pt, .int .i64 pc, .string ps, .int .u64 pat]) (by simp only [List.setIfInBounds_toArray, List.set_cons_succ, List.set_cons_zero])
    have bf := ((((g2.setCell (p := ⟨w.heap.size, 0, none⟩) (fun h => absurd h (Nat.lt_irrefl _)) (.int .u64 no)).setCell (p := ⟨w.heap.size, 1, none⟩) (fun h => absurd h (Nat.lt_irrefl _)) (.int .i64 pt)).setCell (p := ⟨w.heap.size, 2, none⟩) (fun h => absurd h (Nat.lt_irrefl _)) (.int .i64 pc)).setCell (p := ⟨w.heap.size, 3, none⟩) (fun h => absurd h (Nat.lt_irrefl _)) (.string ps)).setCell (p := ⟨w.heap.size, 4, none⟩) (fun h => absurd h (Nat.lt_irrefl _)) (.int .u64 pat)
    refine bodyPost_ret (res_cell_tmp rfl _ _ w.heap.size 37 _ _ rfl zf Try.underlying37 rfl (by kernel_rfl)) rfl ⟨?_, ?_⟩
    · rw [HQ.out.1]; rfl
    · rw [HQ.out.2]
      refine ⟨.slice A2 (l1.length + l2.length) cap2, ⟨(far b (by omega)).trans d2, ?_, fun e => (hlo' b e).2.1 rfl⟩, bf.mono (Nat.le_refl _) (fun k _ hk => .inl hk), ?_⟩
      · rw [List.length_append, List.flatMap_append]
        exact (s2.keep fun k hk => far k (hlo' k hk).1).base (Nat.zero_le _)
      · exact fun k hk => .inr (hlo' k hk).2.2
  · have z0 := z2.cell 0
    have z1 := z2.cell 1
    have z3 := z2.cell 2
    have z4 := z2.cell 3
    have z5 := z2.cell 4
    have k0 := z2.frozen
    clear z2
    have HQ := Lib.hid (place_none hno)
    clear hno
    go_wp2_with fail
    have zf := (((((H2.out.1.set_ 0 (.int .u64 0)).set_ 1 (.int .i64 0)).set_ 2 (.int .i64 0)).set_ 3 (.string { data := #[] })).set_ 4 (.int .u64 0)).same (cs' := #[.int .u64 0, .int .i64 0, .int .i64 0, .string { data := #[] }, .int .u64 0]) (by simp only [List.setIfInBounds_toArray, List.set_cons_succ, List.set_cons_zero])
    have bf := ((((H2.out.2.setCell (p := ⟨w.heap.size, 0, none⟩) (Nat.le_refl _) (.int .u64 0)).setCell (p := ⟨w.heap.size, 1, none⟩) (Nat.le_refl _) (.int .i64 0)).setCell (p := ⟨w.heap.size, 2, none⟩) (Nat.le_refl _) (.int .i64 0)).setCell (p := ⟨w.heap.size, 3, none⟩) (Nat.le_refl _) (.string { data := #[] })).setCell (p := ⟨w.heap.size, 4, none⟩) (Nat.le_refl _) (.int .u64 0)
    refine bodyPost_ret (res_cell_tmp rfl _ _ w.heap.size 37 _ _ rfl zf Try.underlying37 rfl (by kernel_rfl)) rfl ⟨?_, ?_⟩
    · rw [HQ.out.1]; rfl
    · rw [HQ.out.2]
      exact ⟨v, H0.out.below bf, .of_below bf, fun _ hk => .inl hk⟩
end

end Go.Proofs.Ytkeiafiembfaeaa
