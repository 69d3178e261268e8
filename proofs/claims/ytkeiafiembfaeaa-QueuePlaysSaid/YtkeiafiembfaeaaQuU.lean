/- The document's queues: one list of all that wait: New, Len, place, Head, Same. -/
import Derived.Test.YtkeiafiembfaeaaQuL
set_option linter.unusedSimpArgs false
set_option linter.unusedVariables false
namespace Go.Proofs.Ytkeiafiembfaeaa
open Go.RowKit Go.Shelf
attribute [local irreducible] wpMix

/-- The cells of the k-th packet of a row. -/
theorem pk_at {w : World} {g off cap : Nat} {L : List Pk} (h : SlAt w 5 (.slice (some ⟨g, off, none⟩) L.length cap) L.length (L.flatMap pC)) {k : Nat} {p : Pk} (hk : L[k]? = some p) :
    w.cell? ⟨g, off + k * 5, none⟩ = some (.int .u64 p.1) ∧ w.cell? ⟨g, off + k * 5 + 1, none⟩ = some (.int .i64 p.2.1.1) ∧ w.cell? ⟨g, off + k * 5 + 2, none⟩ = some (.int .i64 p.2.1.2.1) ∧ w.cell? ⟨g, off + k * 5 + 3, none⟩ = some (.string p.2.1.2.2) ∧ w.cell? ⟨g, off + k * 5 + 4, none⟩ = some (.int .u64 p.2.2) := by
  have at_ : ∀ m, m < 5 → (L.flatMap pC)[k * 5 + m]? = (pC p)[m]? := fun m hm => by rw [flat_at pC 5 pC_len L k m hm, hk]; rfl
  refine ⟨?_, ?_, ?_, ?_, ?_⟩
  · exact h.cell (j := k * 5) (by rw [show k * 5 = k * 5 + 0 by omega, at_ 0 (by omega)]; rfl)
  · have := h.cell (j := k * 5 + 1) (u := .int .i64 p.2.1.1) (by rw [at_ 1 (by omega)]; rfl); rwa [← Nat.add_assoc] at this
  · have := h.cell (j := k * 5 + 2) (u := .int .i64 p.2.1.2.1) (by rw [at_ 2 (by omega)]; rfl); rwa [← Nat.add_assoc] at this
  · have := h.cell (j := k * 5 + 3) (u := .string p.2.1.2.2) (by rw [at_ 3 (by omega)]; rfl); rwa [← Nat.add_assoc] at this
  · have := h.cell (j := k * 5 + 4) (u := .int .u64 p.2.2) (by rw [at_ 4 (by omega)]; rfl); rwa [← Nat.add_assoc] at this

/-- Block b is the document's queues that hold L. -/
structure RqIs (w : World) (b : Nat) (n most room last : Int) (v : Value) (L : List Pk) : Prop where
  blk : Blk w b 45 #[.int .i64 n, .int .i64 most, .int .i64 room, v, .int .u64 last]
  sl : OwnsAt w 0 37 5 v L.length (L.flatMap pC)
  ne : v.ownBlock ≠ some b
def RqT (b : Nat) (n most room last : Int) (L : List Pk) : Thing := fun w F => ∃ v, RqIs w b n most room last v L ∧ ∀ k, F k ↔ (k = b ∨ v.ownBlock = some k)
section
variable {w w' : World} {b : Nat} {n most room last : Int} {v : Value} {L : List Pk} {t c ti : Int} {s : ByteArray}
theorem RqIs.keep (h : RqIs w b n most room last v L) (hb : w'.heap[b]? = w.heap[b]?) (hv : ∀ k, v.ownBlock = some k → w'.heap[k]? = w.heap[k]?) : RqIs w' b n most room last v L := ⟨hb.trans h.blk, h.sl.keep hv, h.ne⟩
theorem RqIs.below (h : RqIs w b n most room last v L) (hb : Below w.heap.size w w') : RqIs w' b n most room last v L := h.keep (hb.block b h.blk.lt) fun k hk => hb.block k (h.sl.lt k hk).2
theorem RqT.loc (b : Nat) (n most room last : Int) (L : List Pk) : Local (RqT b n most room last L) :=
  ⟨fun w F ⟨v, h, hF⟩ k hk => by rcases (hF k).1 hk with rfl | e; exact h.blk.lt; exact (h.sl.lt k e).2,
   fun w w' F S ⟨v, h, hF⟩ hb hS => ⟨v, h.keep (hb.block b h.blk.lt (hS b ((hF b).2 (.inl rfl)))) fun k hk => hb.block k (h.sl.lt k hk).2 (hS k ((hF k).2 (.inr hk))), hF⟩⟩

theorem rNew_yes (hn : 1 ≤ n ∧ n ≤ 8) (hm : 1 ≤ most ∧ most ≤ 10000) (hr : 1 ≤ room ∧ room ≤ 1000000) (w : World) :
    Calls Try.prog 9 #[.int .i64 n, .int .i64 most, .int .i64 room] w fun e w' => e = .returned (ptr w.heap.size) ∧ Below w.heap.size w w' ∧ RqIs w' w.heap.size n most room 0 (.slice none 0 0) [] := by
  have h1 : decide (n < 1) = false := by rw [decide_eq_false_iff_not]; omega
  have h2 : decide (8 < n) = false := by rw [decide_eq_false_iff_not]; omega
  have h3 : decide (most < 1) = false := by rw [decide_eq_false_iff_not]; omega
  have h4 : decide (10000 < most) = false := by rw [decide_eq_false_iff_not]; omega
  have h5 : decide (room < 1) = false := by rw [decide_eq_false_iff_not]; omega
  have h6 : decide (1000000 < room) = false := by rw [decide_eq_false_iff_not]; omega
  clear hn hm hr
  go_enter Try.func9, Try.ntmps9
  go_wp2_with fail
  go_ret
  exact ⟨rfl, (Below.refl _ _).alloc (Nat.le_refl _) _, Blk.new _ _ _, OwnsAt.nil _ _ _ _, by simp [Value.ownBlock]⟩

theorem rNew_no (h : ¬ ((1 ≤ n ∧ n ≤ 8) ∧ (1 ≤ most ∧ most ≤ 10000) ∧ (1 ≤ room ∧ room ≤ 1000000))) (w : World) :
    Calls Try.prog 9 #[.int .i64 n, .int .i64 most, .int .i64 room] w fun e w' => e = .returned (.pointer none) ∧ w = w' := by
  by_cases a1 : n < 1
  · go_enter Try.func9, Try.ntmps9
    go_wp2_with fail
    go_ret
    exact ⟨rfl, rfl⟩
  by_cases a2 : 8 < n
  · clear h
    go_enter Try.func9, Try.ntmps9
    go_wp2_with fail
    go_ret
    exact ⟨rfl, rfl⟩
  by_cases a3 : most < 1
  · clear h
    go_enter Try.func9, Try.ntmps9
    go_wp2_with fail
    go_ret
    exact ⟨rfl, rfl⟩
  by_cases a4 : 10000 < most
  · clear h
    go_enter Try.func9, Try.ntmps9
    go_wp2_with fail
    go_ret
    exact ⟨rfl, rfl⟩
  by_cases a5 : room < 1
  · clear h
    go_enter Try.func9, Try.ntmps9
    go_wp2_with fail
    go_ret
    exact ⟨rfl, rfl⟩
  by_cases a6 : 1000000 < room
  · clear h
    go_enter Try.func9, Try.ntmps9
    go_wp2_with fail
    go_ret
    exact ⟨rfl, rfl⟩
  exact absurd ⟨⟨by omega, by omega⟩, ⟨by omega, by omega⟩, by omega, by omega⟩ h

theorem qof_take {k : Nat} {p : Pk} (hk : L[k]? = some p) : qof (L.take (k + 1)) t c = if p.2.1.1 = t ∧ p.2.1.2.1 = c then qof (L.take k) t c ++ [p] else qof (L.take k) t c := by
  rw [List.take_add_one, hk]; exact qof_snoc _ _ _ _
theorem qb_bound (hs : ∀ p ∈ L, p.2.1.2.2.size ≤ 65519) : qb L ≤ L.length * 65519 := by
  induction L with
  | nil => simp [qb]
  | cons p L ih =>
    have h1 := hs p (by simp)
    have h2 := ih fun q hq => hs q (List.mem_cons_of_mem _ hq)
    have h3 : qb (p :: L) = p.2.1.2.2.size + qb L := by simp [qb]
    rw [h3, List.length_cons]; omega

set_option maxHeartbeats 1000000 in
theorem rLen (h : RqIs w b n most room last v L) (hL : L.length < 1000000000) (hs : ∀ p ∈ L, p.2.1.2.2.size ≤ 65519) :
    Calls Try.prog 18 #[ptr b, .int .i64 t, .int .i64 c] w fun e w' => e = .returned (.tuple #[.int .i64 (qof L t c).length, .int .i64 (qb (qof L t c))]) ∧ w = w' := by
  obtain ⟨A, cap, rfl, hcap⟩ := h.sl.len
  have c3 := h.blk.cell 3
  have HS := Lib.hid (And.intro h.sl hs)
  clear h hs
  go_enter Try.func18, Try.ntmps18
  go_wp2_with fail
  go_loopg [8, 9, 10] L.length (fun gk x y z wr => ∃ k : Nat, k ≤ L.length ∧ L.length - k = gk ∧ z = .int .i64 k ∧ x = .int .i64 (qof (L.take k) t c).length ∧ y = .int .i64 (qb (qof (L.take k) t c)) ∧ wr = w)
  case atStart => exact ⟨0, by omega, rfl, rfl, by simp [qof], by simp [qof, qb], rfl⟩
  case round =>
    obtain ⟨k, hk, hg, rfl, rfl, rfl, rfl⟩ := hrel
    by_cases hlt : k < L.length
    · have hlt' : (k : Int) < L.length := by omega
      obtain ⟨p, hp⟩ : ∃ p, L[k]? = some p := ⟨_, List.getElem?_eq_getElem hlt⟩
      obtain ⟨g, off, hA⟩ : ∃ g off, A = some ⟨g, off, none⟩ := by
        obtain ⟨b', o', c', e, _⟩ := HS.out.1.sl.some (by omega)
        cases e; exact ⟨b', o', rfl⟩
      subst hA
      obtain ⟨e0, e1, e2, e3, e4⟩ := pk_at HS.out.1.sl hp
      have hqt := qof_take (t := t) (c := c) hp
      have hl1 : (qof (L.take k) t c).length ≤ k := Nat.le_trans (List.length_filter_le _ _) (by rw [List.length_take]; omega)
      have hb1 : qb (qof (L.take k) t c) ≤ 65519000000000 := Nat.le_trans (qb_bound (L := qof (L.take k) t c) fun q hq => HS.out.2 q (List.mem_of_mem_take (List.mem_filter.1 hq).1)) (Nat.le_trans (Nat.mul_le_mul_right _ (show (qof (L.take k) t c).length ≤ 1000000000 by omega)) (by decide))
      have hp5 : p.2.1.2.2.size ≤ 65519 := HS.out.2 p (List.mem_of_getElem? hp)
      obtain ⟨no, ⟨pt, pc, ps⟩, pat⟩ := p
      simp only at e0 e1 e2 e3 e4 hp5 hqt
      have HQ := Lib.hid hqt
      clear hqt hp e0 e4
      generalize qof (L.take k) t c = q at *
      by_cases h1 : pt = t
      · by_cases h2 : pc = c
        · subst h1
          subst h2
          go_wp2_with fail
          go_roundg (L.length - (k + 1))
          case measure => omega
          case rel => exact ⟨k + 1, by omega, rfl, by go_num, by rw [HQ.out, if_pos (by simp), List.length_append]; go_num, by rw [HQ.out, if_pos (by simp), qb_snoc]; go_num, rfl⟩
        · have HN := Lib.hid h2
          subst h1
          have g2 : (pc == c) = false := by rw [beq_eq_false_iff_ne]; exact h2
          clear h2
          go_wp2_with fail
          go_roundg (L.length - (k + 1))
          case measure => omega
          case rel => exact ⟨k + 1, by omega, rfl, by go_num, by rw [HQ.out, if_neg (fun h => HN.out h.2)], by rw [HQ.out, if_neg (fun h => HN.out h.2)], rfl⟩
      · have HN := Lib.hid h1
        have g1 : (pt == t) = false := by rw [beq_eq_false_iff_ne]; exact h1
        clear h1
        go_wp2_with fail
        go_roundg (L.length - (k + 1))
        case measure => omega
        case rel => exact ⟨k + 1, by omega, rfl, by go_num, by rw [HQ.out, if_neg (fun h => HN.out h.1)], by rw [HQ.out, if_neg (fun h => HN.out h.1)], rfl⟩
    · obtain rfl : k = L.length := by omega
      rw [List.take_length]
      go_wp2_with fail
      go_ret2
      exact ⟨rfl, rfl⟩

/-- Where the first one of a queue stands. -/
def PlaceAt (L : List Pk) (t c : Int) (r : Int) : Prop :=
  (∃ l1 p l2, L = l1 ++ p :: l2 ∧ (∀ q ∈ l1, ¬ inq t c q = true) ∧ inq t c p = true ∧ r = (l1.length : Nat)) ∨ ((∀ q ∈ L, ¬ inq t c q = true) ∧ r = -1)
def PlacePost (L : List Pk) (t c : Int) (w : World) (e : Ending) (w' : World) : Prop := ∃ r : Int, PlaceAt L t c r ∧ e = .returned (.int .i64 r) ∧ w = w'
theorem inq_iff {p : Pk} : inq t c p = true ↔ p.2.1.1 = t ∧ p.2.1.2.1 = c := by simp only [inq, Bool.and_eq_true, beq_iff_eq]
set_option maxHeartbeats 1000000 in
theorem rplace (h : RqIs w b n most room last v L) (hL : L.length < 1000000000) :
    Calls Try.prog 39 #[ptr b, .int .i64 t, .int .i64 c] w (PlacePost L t c w) := by
  obtain ⟨A, cap, rfl, hcap⟩ := h.sl.len
  have c3 := h.blk.cell 3
  have HS := Lib.hid h.sl
  clear h
  go_enter Try.func39, Try.ntmps39
  go_wp2_with fail
  go_loopg [7] L.length (fun gk z wr => ∃ k : Nat, k ≤ L.length ∧ L.length - k = gk ∧ z = .int .i64 k ∧ Hid (∀ q ∈ L.take k, ¬ inq t c q = true) ∧ wr = w)
  case atStart => exact ⟨0, by omega, rfl, rfl, Lib.hid (by simp), rfl⟩
  case round =>
    obtain ⟨k, hk, hg, rfl, hno, rfl⟩ := hrel
    by_cases hlt : k < L.length
    · have hlt' : (k : Int) < L.length := by omega
      obtain ⟨p, hp⟩ : ∃ p, L[k]? = some p := ⟨_, List.getElem?_eq_getElem hlt⟩
      obtain ⟨g, off, hA⟩ : ∃ g off, A = some ⟨g, off, none⟩ := by
        obtain ⟨b', o', c', e, _⟩ := HS.out.sl.some (by omega)
        cases e; exact ⟨b', o', rfl⟩
      subst hA
      obtain ⟨e0, e1, e2, e3, e4⟩ := pk_at HS.out.sl hp
      have HP := Lib.hid hp
      clear hp e0 e3 e4
      have more : ¬ inq t c p = true → ∀ q ∈ L.take (k + 1), ¬ inq t c q = true := fun hn q hq => by
        rw [List.take_add_one, HP.out] at hq
        rcases List.mem_append.1 hq with hq | hq
        · exact hno.out q hq
        · simp at hq; subst hq; exact hn
      have HM := Lib.hid more
      clear more
      obtain ⟨no, ⟨pt, pc, ps⟩, pat⟩ := p
      simp only at e1 e2
      by_cases h1 : pt = t
      · by_cases h2 : pc = c
        · subst h1
          subst h2
          go_wp2_with fail
          go_ret
          refine ⟨k, .inl ⟨L.take k, (no, (pt, pc, ps), pat), L.drop (k + 1), ?_, hno.out, by simp [inq], by rw [List.length_take]; congr 1; omega⟩, rfl, rfl⟩
          have h5 := List.getElem?_eq_some_iff.1 HP.out
          obtain ⟨h5, h6⟩ := h5
          rw [← h6, List.getElem_cons_drop, List.take_append_drop]
        · have HN := Lib.hid (HM.out (fun h => h2 (inq_iff.1 h).2))
          subst h1
          have g2 : (pc == c) = false := by rw [beq_eq_false_iff_ne]; exact h2
          clear h2
          go_wp2_with fail
          go_roundg (L.length - (k + 1))
          case measure => omega
          case rel => exact ⟨k + 1, by omega, rfl, by go_num, HN, rfl⟩
      · have HN := Lib.hid (HM.out (fun h => h1 (inq_iff.1 h).1))
        have g1 : (pt == t) = false := by rw [beq_eq_false_iff_ne]; exact h1
        clear h1
        go_wp2_with fail
        go_roundg (L.length - (k + 1))
        case measure => omega
        case rel => exact ⟨k + 1, by omega, rfl, by go_num, HN, rfl⟩
    · obtain rfl : k = L.length := by omega
      have HN := Lib.hid hno.out
      go_wp2_with fail
      go_ret
      exact ⟨-1, .inr ⟨by have := HN.out; rwa [List.take_length] at this, rfl⟩, rfl, rfl⟩
end

end Go.Proofs.Ytkeiafiembfaeaa
