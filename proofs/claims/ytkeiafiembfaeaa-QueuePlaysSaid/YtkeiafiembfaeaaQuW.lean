/- The document's queues: Put. -/
import Derived.Test.YtkeiafiembfaeaaQuV
set_option linter.unusedSimpArgs false
set_option linter.unusedVariables false
namespace Go.Proofs.Ytkeiafiembfaeaa
open Go.RowKit Go.Shelf
attribute [local irreducible] wpMix

section
variable {w w' : World} {b : Nat} {n most room last : Int} {v : Value} {L : List Pk} {t c ti : Int} {s : ByteArray}

set_option maxRecDepth 100000 in
set_option maxHeartbeats 2000000 in
theorem rPut_bad (h : RqIs w b n most room last v L) (ok : QsOk n most room last L) (hL : L.length < 1000000000) (hs : ∀ p ∈ L, p.2.1.2.2.size ≤ 65519) (hm : s.size ≤ maxLen) (he : putErr n most room L t c s ≠ 0) :
    Calls Try.prog 12 #[ptr b, .int .i64 t, .int .i64 c, .string s, .int .u64 ti] w fun e w' => e = .returned (.tuple #[.int .u64 0, .int .i64 (putErr n most room L t c s)]) ∧ w = w' := by
  have c0 := h.blk.cell 0
  have c1 := h.blk.cell 1
  have c2 := h.blk.cell 2
  have HLn := Lib.hid (rLen (t := t) (c := c) h hL hs)
  unfold maxLen at hm
  have hn := ok.n1
  have hby := ok.bytes t c
  have hro := ok.r2
  clear h ok hL hs
  unfold putErr at *
  by_cases h0 : 0 ≤ t ∧ t < n
  · rw [if_pos h0] at he ⊢
    have t1 : decide (t < 0) = false := by rw [decide_eq_false_iff_not]; omega
    have t2 : decide (n ≤ t) = false := by rw [decide_eq_false_iff_not]; omega
    by_cases h1 : InR n t c
    · rw [if_pos h1] at he ⊢
      unfold InR at h1
      have t3 : decide (c < 0) = false := by rw [decide_eq_false_iff_not]; omega
      have t4 : decide (3 ≤ c) = false := by rw [decide_eq_false_iff_not]; omega
      by_cases h2 : s.size ≠ 0
      · rw [if_pos h2] at he ⊢
        have h4 : (s.toList == ByteArray.empty.toList) = false := by rw [str_beq, decide_eq_false]; rintro rfl; exact h2 rfl
        have h3 : ¬ s.toList = [] := str_ne h2
        have h5 : s.toList.isEmpty = false := by rw [List.isEmpty_eq_false_iff]; exact h3
        by_cases h6 : s.size ≤ 65519
        · rw [if_pos h6] at he ⊢
          have t5 : decide (65519 < (s.size : Int)) = false := by rw [decide_eq_false_iff_not]; omega
          by_cases h7 : ((qof L t c).length : Int) < most
          · rw [if_pos h7] at he ⊢
            have t6 : decide (most ≤ ((qof L t c).length : Int)) = false := by rw [decide_eq_false_iff_not]; omega
            by_cases h8 : (qb (qof L t c) : Int) + s.size ≤ room
            · rw [if_pos h8] at he; exact absurd rfl he
            · rw [if_neg h8]
              have t7 : decide (room < (qb (qof L t c) : Int) + s.size) = true := by rw [decide_eq_true_iff]; omega
              clear he h0 h1 h2 h7 h8
              go_enter Try.func12, Try.ntmps12
              go_wp2_with fail
              refine HLn.out.mono ?_
              rintro e w1 ⟨rfl, rfl⟩
              go_wp2_with fail
              go_ret2
              exact ⟨rfl, rfl⟩
          · rw [if_neg h7]
            have t6 : decide (most ≤ ((qof L t c).length : Int)) = true := by rw [decide_eq_true_iff]; omega
            clear he h0 h1 h2 h7 h6
            go_enter Try.func12, Try.ntmps12
            go_wp2_with fail
            refine HLn.out.mono ?_
            rintro e w1 ⟨rfl, rfl⟩
            go_wp2_with fail
            go_ret2
            exact ⟨rfl, rfl⟩
        · rw [if_neg h6]
          have t5 : decide (65519 < (s.size : Int)) = true := by rw [decide_eq_true_iff]; omega
          clear he h0 h1 h2 h6
          go_enter Try.func12, Try.ntmps12
          go_wp2_with fail
          go_ret2
          exact ⟨rfl, rfl⟩
      · rw [if_neg h2]
        obtain rfl : s = ByteArray.empty := by
          apply ByteArray.ext; apply Array.eq_empty_of_size_eq_zero; exact Decidable.not_not.1 h2
        clear he h0 h1 h2
        go_enter Try.func12, Try.ntmps12
        go_wp2_with fail
        go_ret2
        exact ⟨rfl, rfl⟩
    · rw [if_neg h1]
      by_cases h2 : c < 0
      · clear he h0 h1
        go_enter Try.func12, Try.ntmps12
        go_wp2_with fail
        go_ret2
        exact ⟨rfl, rfl⟩
      · have h3 : 3 ≤ c := by unfold InR at h1; omega
        clear he h0 h1
        go_enter Try.func12, Try.ntmps12
        go_wp2_with fail
        go_ret2
        exact ⟨rfl, rfl⟩
  · rw [if_neg h0]
    by_cases h2 : t < 0
    · clear he h0
      go_enter Try.func12, Try.ntmps12
      go_wp2_with fail
      go_ret2
      exact ⟨rfl, rfl⟩
    · have h3 : n ≤ t := by omega
      clear he h0
      go_enter Try.func12, Try.ntmps12
      go_wp2_with fail
      go_ret2
      exact ⟨rfl, rfl⟩

/-- What the document's Put leaves. -/
def RqPut (b : Nat) (n most room last : Int) (v : Value) (L : List Pk) (w w' : World) : Prop :=
  ∃ v', RqIs w' b n most room last v' L ∧ But (fun k => k = b ∨ v.ownBlock = some k) w.heap.size w w' ∧ ∀ k, v'.ownBlock = some k → v.ownBlock = some k ∨ w.heap.size ≤ k
set_option maxRecDepth 100000 in
set_option maxHeartbeats 4000000 in
theorem rPut_ok (h : RqIs w b n most room last v L) (ok : QsOk n most room last L) (hL : L.length < 1000000000) (hs : ∀ p ∈ L, p.2.1.2.2.size ≤ 65519) (he : putErr n most room L t c s = 0) :
    Calls Try.prog 12 #[ptr b, .int .i64 t, .int .i64 c, .string s, .int .u64 ti] w fun e w' => e = .returned (.tuple #[.int .u64 (last + 1), .int .i64 0]) ∧ RqPut b n most room (last + 1) v (L ++ [(last + 1, (t, c, s), ti)]) w w' := by
  obtain ⟨hR, h2, h6, h7, h8⟩ := putErr_ok he
  have HLn := Lib.hid (rLen (t := t) (c := c) h hL hs)
  unfold InR at hR
  have hby := ok.bytes t c
  have hro := ok.r2
  have l0 := ok.last0
  have l2 := ok.last2
  have t1 : decide (t < 0) = false := by rw [decide_eq_false_iff_not]; omega
  have t2 : decide (n ≤ t) = false := by rw [decide_eq_false_iff_not]; omega
  have t3 : decide (c < 0) = false := by rw [decide_eq_false_iff_not]; omega
  have t4 : decide (3 ≤ c) = false := by rw [decide_eq_false_iff_not]; omega
  have t5 : decide (65519 < (s.size : Int)) = false := by rw [decide_eq_false_iff_not]; omega
  have t6 : decide (most ≤ ((qof L t c).length : Int)) = false := by rw [decide_eq_false_iff_not]; omega
  have t7 : decide (room < (qb (qof L t c) : Int) + s.size) = false := by rw [decide_eq_false_iff_not]; omega
  have h4 : (s.toList == ByteArray.empty.toList) = false := by rw [str_beq, decide_eq_false]; rintro rfl; exact h2 rfl
  have h3 : ¬ s.toList = [] := str_ne h2
  have h5 : s.toList.isEmpty = false := by rw [List.isEmpty_eq_false_iff]; exact h3
  obtain ⟨A, cap, rfl, hcap⟩ := h.sl.len
  obtain ⟨i0, hi, hz0, hz1, hz2⟩ := info_parts pk_info
  have c0 := h.blk.cell 0
  have c1 := h.blk.cell 1
  have c2 := h.blk.cell 2
  have c3 := h.blk.cell 3
  have c4 := h.blk.cell 4
  have f4 := h.blk.frozen
  have hlb := h.blk.lt
  have H0 := Lib.hid h
  clear h ok hs he h2 h7 h8 hR
  go_enter Try.func12, Try.ntmps12
  go_wp2_with fail
  refine HLn.out.mono ?_
  rintro e w1 ⟨rfl, rfl⟩
  go_upto_region 15 with fail
  have k0 := (H0.out.blk.set_ 4 (.int .u64 (last + 1))).same (cs' := #[.int .i64 n, .int .i64 most, .int .i64 room, .slice A L.length cap, .int .u64 (last + 1)]) (by simp only [List.setIfInBounds_toArray, List.set_cons_succ, List.set_cons_zero])
  have o0 := H0.out.sl.keep (w' := w.setCell ⟨b, 4, none⟩ (.int .u64 (last + 1))) fun k hk => Below.heap_setCell _ _ _ _ (by rintro rfl; exact H0.out.ne hk)
  have b0 := (But.refl (fun k => k = b ∨ (Value.slice A L.length cap).ownBlock = some k) w.heap.size w).setCell (p := ⟨b, 4, none⟩) (fun _ => .inl rfl) (.int .u64 (last + 1))
  generalize World.setCell _ _ _ = W0 at k0 o0 b0 ⊢
  clear c0 c1 c2 c3 c4 f4 t1 t2 t3 t4 t5 t6 t7 h3 h4 h5 h6 hby hro
  obtain ⟨S, hSd⟩ : ∃ S : Nat → Prop, ∀ k, S k ↔ (Value.slice A L.length cap).ownBlock = some k := ⟨_, fun _ => Iff.rfl⟩
  have hSb : ¬ S b := fun h => H0.out.ne ((hSd b).1 h)
  have q1 : ∀ X : Cls fun W => But S W0.heap.size W0 W, X.W.cell? ⟨b, 3, none⟩ = some (.slice A L.length cap) := fun X => (but_cell X _ _ k0.lt hSb).trans (k0.cell 3)
  have q2 : ∀ X : Cls fun W => But S W0.heap.size W0 W, X.W.cell? ⟨b, 4, none⟩ = some (.int .u64 (last + 1)) := fun X => (but_cell X _ _ k0.lt hSb).trans (k0.cell 4)
  have HK := Lib.hid (And.intro b0 (And.intro k0 (And.intro o0 hSd)))
  have hlb0 := k0.lt
  clear b0 k0 o0 hSd
  refine wp_region_sub [14, 15, 18] (fun W => But S W0.heap.size W0 W) (by kernel_rfl) (by kernel_rfl) ((But.refl _ _ _).drew) (fun _ => ?_)
  iterate 14 (refine mix_read (by kernel_rfl) (by rfl) (by rfl) (by rfl) (of_decide_eq_true (by kernel_rfl)) ?_; apply Exists.intro; apply Exists.intro; refine ⟨fun w' hw' K hK => ?_, ?_, ?_⟩; (obtain ⟨X, rfl⟩ := hw'; go_wp2_with fail; first | exact ⟨rfl, rfl⟩ | exact rfl); rfl)
  (refine mix_act (by rfl) (by rfl) (fun K hK => ?_))
  go_wp2_with fail
  refine ⟨.mk ((But.refl S _ _).alloc (Nat.le_refl _) _).drew, ?_⟩
  (refine mix_act (by rfl) (by rfl) (fun K hK => ?_))
  refine wp_append_at (.tmp 68) (.tmp 78) 43 rfl 0 37 i0 (.agg #[.int .u64 0, .int .i64 0, .int .i64 0, .string ByteArray.empty, .int .u64 0]) 5 48 Try.underlying43 hi hz0 hz1 hz2 rfl (by decide) (.slice A L.length cap) L.length (L.flatMap pC) rfl (HK.out.2.2.1.below ((Below.refl _ _).alloc (Nat.le_refl _) _).drew) ⟨W0.heap.size, 0, none⟩ 1 [.int .u64 (last + 1), .int .i64 t, .int .i64 c, .string s, .int .u64 ti] rfl rfl
    (fun j u hj => by rw [Addr.add_lit, Nat.zero_add, (Blk.new W0 37 #[.int .u64 (last + 1), .int .i64 t, .int .i64 c, .string s, .int .u64 ti]).drew.cell j, ← Array.getElem?_toList]; exact hj) (fun u hu => by simp at hu; rcases hu with rfl | rfl | rfl | rfl | rfl <;> rfl) (Nat.zero_le _) (by unfold maxLen; omega) (by omega) ?_
  intro v' w1 ho1 hg1 hv1
  obtain ⟨A', cap', rfl, hcap'⟩ := ho1.len
  have hB1 : Blk w1 b 45 #[.int .i64 n, .int .i64 most, .int .i64 room, .slice A L.length cap, .int .u64 (last + 1)] := (hg1.block b (by simp; omega) (fun e => H0.out.ne e.symm)).trans ((HK.out.2.1.alloc _).drew)
  have hb1 : But S W0.heap.size W0 w1 := ((But.refl S _ _).alloc (Nat.le_refl _) _).drew.trans ((but_grown hg1 S (fun k hk => (HK.out.2.2.2 k).2 hk)).mono (by simp) (fun k _ h => h))
  have c1' := hB1.cell 3
  have f1' := hB1.frozen 3
  have HB1 := Lib.hid (And.intro hB1 (And.intro hb1 (And.intro ho1 hv1)))
  clear hB1 hb1 ho1 hv1 hg1 q1 q2
  (simp [Act.put])
  refine hK _ _ ⟨.mk HB1.out.2.1, ?_⟩
  iterate 2 (refine mix_read (by kernel_rfl) (by rfl) (by rfl) (by rfl) (of_decide_eq_true (by kernel_rfl)) ?_; apply Exists.intro; apply Exists.intro; refine ⟨fun w' hw' K hK => ?_, ?_, ?_⟩; (obtain ⟨X, rfl⟩ := hw'; go_wp2_with fail; first | exact ⟨rfl, rfl⟩ | exact rfl); rfl)
  (refine mix_last (by rfl) (by rfl) (by kernel_rfl) (fun K hK => ?_))
  have d1 := (HB1.out.1.set_ 3 (.slice A' (L.length + 1) cap')).same (cs' := #[.int .i64 n, .int .i64 most, .int .i64 room, .slice A' (L.length + 1) cap', .int .u64 (last + 1)]) (by simp only [List.setIfInBounds_toArray, List.set_cons_succ, List.set_cons_zero])
  obtain ⟨W5, hW5⟩ : ∃ W5, w1.setCell ⟨b, 3, none⟩ (.slice A' (L.length + 1) cap') = W5 := ⟨_, rfl⟩
  rw [hW5] at d1
  have c4' := d1.cell 4
  have HD := Lib.hid (And.intro d1 hW5)
  clear d1
  go_wp2_with fail
  go_ret2
  have hN' : (L ++ [((last + 1, (t, c, s), ti) : Pk)]).length = L.length + 1 := by simp
  have hF' : (L ++ [((last + 1, (t, c, s), ti) : Pk)]).flatMap pC = L.flatMap pC ++ [.int .u64 (last + 1), .int .i64 t, .int .i64 c, .string s, .int .u64 ti] := by rw [List.flatMap_append, List.flatMap_cons, List.flatMap_nil, List.append_nil]; rfl
  obtain ⟨hB1, hb1, ho1, hv1⟩ := HB1.out
  have hsz := HK.out.1.size
  have hvb : (Value.slice A' (L.length + 1) cap').ownBlock ≠ some b := by
    rcases hv1 with h | ⟨g, h, hg⟩
    · rw [h]; exact H0.out.ne
    · rw [h]; intro e; cases e; simp at hg; omega
  refine ⟨rfl, .slice A' (L.length + 1) cap', ⟨HD.out.1, ?_, hvb⟩, ?_, ?_⟩
  · rw [hN', hF', ← hW5]
    exact ho1.keep fun k hk => Below.heap_setCell _ _ _ _ (by rintro rfl; exact hvb hk)
  · have e1 : But (fun k => k = b ∨ Value.ownBlock (.slice A L.length cap) = some k) w.heap.size w w1 := HK.out.1.trans (hb1.mono hsz (fun k _ h => .inr ((HK.out.2.2.2 k).1 h)))
    rw [← hW5]
    exact e1.setCell (p := ⟨b, 3, none⟩) (fun _ => .inl rfl) _
  · intro k hk
    rcases hv1 with h | ⟨g, h, hg⟩
    · rw [h] at hk; exact .inl hk
    · rw [h] at hk; cases hk; simp at hg; exact .inr (by omega)
end

/-! ## As a thing -/
section
variable {w0 w : World} {B b : Nat} {n most room last : Int} {L : List Pk} {Ts : List Thing} {i : Nat} {t c ti : Int} {s : ByteArray}
theorem rqPut_acts {v : Value} {F : Nat → Prop} {w' : World} (hF : ∀ k, F k ↔ (k = b ∨ v.ownBlock = some k)) {L' : List Pk} {last' : Int} (h : RqPut b n most room last' v L' w w') : Acts (RqT b n most room last' L') F w w' := by
  obtain ⟨v', h1, h2, h3⟩ := h
  refine ⟨fun k => k = b ∨ v'.ownBlock = some k, ⟨v', h1, fun _ => Iff.rfl⟩, h2.mono (Nat.le_refl _) (fun k _ hk => (hF k).2 hk), ?_⟩
  rintro k (rfl | hk)
  · exact .inl ((hF _).2 (.inl rfl))
  · rcases h3 k hk with e | hg
    · exact .inl ((hF k).2 (.inr e))
    · exact .inr hg
theorem rqStay {v : Value} {F : Nat → Prop} {w' : World} (hF : ∀ k, F k ↔ (k = b ∨ v.ownBlock = some k)) (h : RqIs w b n most room last v L) (hb : Below w.heap.size w w') : Acts (RqT b n most room last L) F w w' :=
  ⟨F, ⟨v, h.below hb, hF⟩, .of_below hb, fun _ hk => .inl hk⟩
theorem srPut (h : Sep B w0 w Ts) (hi : Ts[i]? = some (RqT b n most room last L)) (ok : QsOk n most room last L) (hL : L.length < 1000000000) (hs : ∀ p ∈ L, p.2.1.2.2.size ≤ 65519) (hm : s.size ≤ maxLen) :
    Calls Try.prog 12 #[ptr b, .int .i64 t, .int .i64 c, .string s, .int .u64 ti] w fun e w' => e = .returned (putV n most room last L t c s) ∧ Sep B w0 w' (Ts.set i (RqT b n most room (putN n most room last L t c s) (putL n most room last L t c s ti))) := by
  refine h.call i (R := fun e => e = .returned (putV n most room last L t c s)) hi (RqT.loc _ _ _ _ _ _) fun F hF => ?_
  obtain ⟨v, hQ, hF⟩ := hF
  unfold putV putN putL
  by_cases h0 : putErr n most room L t c s = 0
  · rw [if_pos h0, if_pos h0, if_pos h0, h0]
    exact (rPut_ok hQ ok hL hs h0).mono fun e w' ⟨h1, h2⟩ => ⟨h1, rqPut_acts hF h2⟩
  · rw [if_neg h0, if_neg h0, if_neg h0]
    refine (rPut_bad hQ ok hL hs hm h0).mono ?_
    rintro e w' ⟨h1, rfl⟩
    exact ⟨h1, rqStay hF hQ (Below.refl _ _)⟩
theorem srHead (h : Sep B w0 w Ts) (hi : Ts[i]? = some (RqT b n most room last L)) (hL : L.length < 1000000000) :
    Calls Try.prog 16 #[ptr b, .int .i64 t, .int .i64 c] w fun e w' => e = .returned (hd (qof L t c)) ∧ Sep B w0 w' Ts ∧ Below w.heap.size w w' := by
  obtain ⟨F, v, hQ, hF⟩ := h.look i hi
  exact (rHead hQ hL).mono fun e w' ⟨h1, h2⟩ => ⟨h1, h.below h2, h2⟩
theorem srLen (h : Sep B w0 w Ts) (hi : Ts[i]? = some (RqT b n most room last L)) (hL : L.length < 1000000000) (hs : ∀ p ∈ L, p.2.1.2.2.size ≤ 65519) :
    Calls Try.prog 18 #[ptr b, .int .i64 t, .int .i64 c] w fun e w' => e = .returned (.tuple #[.int .i64 (qof L t c).length, .int .i64 (qb (qof L t c))]) ∧ w = w' := by
  obtain ⟨F, v, hQ, hF⟩ := h.look i hi
  exact rLen hQ hL hs
theorem srNew (h : Sep B w0 w Ts) (hn : 1 ≤ n ∧ n ≤ 8) (hm : 1 ≤ most ∧ most ≤ 10000) (hr : 1 ≤ room ∧ room ≤ 1000000) :
    Calls Try.prog 9 #[.int .i64 n, .int .i64 most, .int .i64 room] w fun e w' => ∃ b, e = .returned (ptr b) ∧ Sep B w0 w' (Ts ++ [RqT b n most room 0 []]) ∧ Below w.heap.size w w' := by
  refine (rNew_yes hn hm hr w).mono ?_
  rintro e w' ⟨rfl, hb, hQ⟩
  exact ⟨_, rfl, h.new (RqT.loc _ _ _ _ _ _) (F' := fun k => k = w.heap.size ∨ (Value.slice none 0 0).ownBlock = some k) ⟨_, hQ, fun _ => Iff.rfl⟩ (fun k hk => by rcases hk with rfl | e; exact Nat.le_refl _; simp [Value.ownBlock] at e) hb, hb⟩
end

end Go.Proofs.Ytkeiafiembfaeaa
