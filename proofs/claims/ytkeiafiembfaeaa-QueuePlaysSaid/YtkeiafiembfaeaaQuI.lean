/- New. -/
import Derived.Test.YtkeiafiembfaeaaQuH
set_option linter.unusedSimpArgs false
set_option linter.unusedVariables false
namespace Go.Proofs.Ytkeiafiembfaeaa
open Go.RowKit
attribute [local irreducible] wpMix

theorem withinT {n lo hi : Int} (h : lo ≤ n ∧ n ≤ hi) (w : World) : Calls Try.prog 23 #[.int .i64 n, .int .i64 lo, .int .i64 hi] w fun r w' => r = .returned (.bool true) ∧ w = w' := by
  have := within_any n lo hi w
  rwa [show wIn n lo hi = true by simp [wIn, h.1, h.2]] at this
theorem withinF {n lo hi : Int} (h : ¬ (lo ≤ n ∧ n ≤ hi)) (w : World) : Calls Try.prog 23 #[.int .i64 n, .int .i64 lo, .int .i64 hi] w fun r w' => r = .returned (.bool false) ∧ w = w' := by
  have := within_any n lo hi w
  rwa [show wIn n lo hi = false by simp only [wIn, Bool.and_eq_false_iff, decide_eq_false_iff_not]; omega] at this

def InK (n k t c : Int) : Prop := InR n t c ∧ 3 * t + c < k
/-- Queues that are being made: the first k are there. -/
structure QsB (w wr : World) (b : Nat) (n most room k : Int) (mb : Nat) (f : Value → Option Value) (ob rb : Int → Int → Nat) (col : Nat → Int) : Prop where
  blk : Blk wr b 60 #[.map (some mb), .int .i64 n, .int .i64 most, .int .i64 room, .int .u64 0]
  map : ∃ m, MapIs Try.prog 67 wr mb m f
  key : ∀ t c, InK n k t c → f (kv t c) = some (ptr (ob t c))
  keyN : ∀ t c, ¬ InK n k t c → f (kv t c) = none
  keys : ∀ x y, f x = some y → ∃ t c, InK n k t c ∧ x = kv t c
  one : ∀ t c, InK n k t c → Blk wr (ob t c) 65 #[ptr (rb t c), .int .i64 0]
  ring : ∀ t c, InK n k t c → RingAt wr (rb t c) most (.slice none 0 0) []
  cb : w.heap.size ≤ b ∧ col b = 0
  cm : w.heap.size ≤ mb ∧ col mb = 1
  co : ∀ t c, InK n k t c → w.heap.size ≤ ob t c ∧ col (ob t c) = 2 + 3 * (3 * t + c)
  cr : ∀ t c, InK n k t c → w.heap.size ≤ rb t c ∧ col (rb t c) = 3 + 3 * (3 * t + c)
  below : Below w.heap.size w wr

section
variable {w wr w' : World} {b : Nat} {n most room k : Int} {mb : Nat} {f : Value → Option Value} {ob rb : Int → Int → Nat} {col : Nat → Int}

theorem QsB.done (h : QsB w wr b n most room k mb f ob rb col) (hk : k = 3 * n) : QsIs wr b n most room 0 [] mb f ob rb (fun _ _ => .slice none 0 0) col (fun g => w.heap.size ≤ g ∧ g < wr.heap.size) := by
  have e : ∀ t c, InR n t c → InK n k t c := fun t c ht => ⟨ht, by unfold InR at ht; omega⟩
  have lo : ∀ t c, InR n t c → ob t c < wr.heap.size := fun t c ht => (h.one t c (e t c ht)).lt
  have lr : ∀ t c, InR n t c → rb t c < wr.heap.size := fun t c ht => (h.ring t c (e t c ht)).1.lt
  exact { blk := h.blk, map := h.map, key := fun t c ht => h.key t c (e t c ht), keyN := fun t c ht => h.keyN t c (fun hh => ht hh.1), keys := fun x y hxy => by obtain ⟨t, c, h1, h2⟩ := h.keys x y hxy; exact ⟨t, c, h1.1, h2⟩, one := fun t c ht => h.one t c (e t c ht), ring := fun t c ht => h.ring t c (e t c ht), cb := ⟨⟨h.cb.1, h.blk.lt⟩, h.cb.2⟩, cm := ⟨⟨h.cm.1, by obtain ⟨m, hm⟩ := h.map; exact hm.lt⟩, h.cm.2⟩, co := fun t c ht => ⟨⟨(h.co t c (e t c ht)).1, lo t c ht⟩, (h.co t c (e t c ht)).2⟩, cr := fun t c ht => ⟨⟨(h.cr t c (e t c ht)).1, lr t c ht⟩, (h.cr t c (e t c ht)).2⟩, cv := fun t c g ht hg => by simp [Value.ownBlock] at hg, lt := fun g hg => hg.2 }

theorem ringNil_keep {w w' : World} {b : Nat} {room : Int} (h : RingAt w b room (.slice none 0 0) []) (hb : w'.heap[b]? = w.heap[b]?) : RingAt w' b room (.slice none 0 0) [] := h.keep hb fun g hg => by simp [Value.ownBlock] at hg

open Classical in
theorem QsB.next (h : QsB w wr b n most room k mb f ob rb col) {t c : Int} (ht : InR n t c) (hk : k = 3 * t + c) {W1 : World} {g1 g2 : Nat} (h1 : wr.heap.size ≤ g1) (h2 : wr.heap.size ≤ g2) (h12 : g1 ≠ g2)
    (hb : Below wr.heap.size wr W1) (hr : RingAt W1 g1 most (.slice none 0 0) []) (ho : Blk W1 g2 65 #[ptr g1, .int .i64 0])
    (hm : But (fun j => j = mb) W1.heap.size W1 w') (hM : ∀ f', f' (kv t c) = some (ptr g2) → (∀ k', k' ≠ kv t c → f' k' = f k') → ∃ m, MapIs Try.prog 67 w' mb m f') :
    ∃ f' ob' rb' col', QsB w w' b n most room (k + 1) mb f' ob' rb' col' := by
  have lmb : mb < wr.heap.size := by obtain ⟨m, hm⟩ := h.map; exact hm.lt
  have lb : b < wr.heap.size := h.blk.lt
  have keep : ∀ j, j < wr.heap.size → j ≠ mb → w'.heap[j]? = wr.heap[j]? := fun j hj hne => (hm.block j (Nat.lt_of_lt_of_le hj hb.size) hne).trans (hb.block j hj)
  have hbm : b ≠ mb := fun e => by have := h.cm.2; rw [← e, h.cb.2] at this; omega
  have e : ∀ t' c', InK n (k + 1) t' c' ↔ (t' = t ∧ c' = c) ∨ InK n k t' c' := fun t' c' => by
    unfold InK InR at *; constructor
    · rintro ⟨hh, hlt⟩
      by_cases heq : 3 * t' + c' = k
      · left; omega
      · right; omega
    · rintro (⟨rfl, rfl⟩ | hh)
      · omega
      · omega
  have ne : ∀ t' c', InK n k t' c' → ¬ (t' = t ∧ c' = c) := fun t' c' hh hc => by unfold InK at hh; omega
  have lo : ∀ t c, InK n k t c → ob t c < wr.heap.size := fun t c ht => (h.one t c ht).lt
  have lr : ∀ t c, InK n k t c → rb t c < wr.heap.size := fun t c ht => (h.ring t c ht).1.lt
  have hws := h.below.size
  refine ⟨fun x => if x = kv t c then some (ptr g2) else f x, fun t' c' => if t' = t ∧ c' = c then g2 else ob t' c', fun t' c' => if t' = t ∧ c' = c then g1 else rb t' c', fun j => if j = g1 then 3 + 3 * (3 * t + c) else if j = g2 then 2 + 3 * (3 * t + c) else col j, ?_⟩
  refine { blk := (keep b lb hbm).trans h.blk, map := hM _ (by simp) (fun k' hk' => by simp [hk']), key := fun t' c' hh => ?_, keyN := fun t' c' hh => ?_, keys := fun x y hxy => ?_, one := fun t' c' hh => ?_, ring := fun t' c' hh => ?_, cb := ⟨h.cb.1, ?_⟩, cm := ⟨h.cm.1, ?_⟩, co := fun t' c' hh => ?_, cr := fun t' c' hh => ?_, below := ?_ }
  · by_cases hc : t' = t ∧ c' = c
    · obtain ⟨rfl, rfl⟩ := hc; simp
    · have hne : kv t' c' ≠ kv t c := kv_ne (fun hh => hc ⟨hh.1.symm, hh.2.symm⟩)
      simp only [hne, hc, if_false]
      exact h.key t' c' (((e t' c').1 hh).resolve_left hc)
  · have hne : kv t' c' ≠ kv t c := kv_ne (fun hc => hh ((e t' c').2 (.inl ⟨hc.1.symm, hc.2.symm⟩)))
    simp only [hne, if_false]
    exact h.keyN t' c' (fun hk => hh ((e t' c').2 (.inr hk)))
  · by_cases hx : x = kv t c
    · exact ⟨t, c, (e t c).2 (.inl ⟨rfl, rfl⟩), hx⟩
    · simp only [hx, if_false] at hxy
      obtain ⟨t', c', h1, h2⟩ := h.keys x y hxy
      exact ⟨t', c', (e t' c').2 (.inr h1), h2⟩
  · rcases (e t' c').1 hh with ⟨rfl, rfl⟩ | hk'
    · simp only [and_self, if_true]
      exact (hm.block g2 ho.lt (by omega)).trans ho
    · simp only [ne t' c' hk', if_false]
      refine (keep _ (lo t' c' hk') fun hh => ?_).trans (h.one t' c' hk')
      have := (h.co t' c' hk').2; rw [hh, h.cm.2] at this; unfold InK InR at hk'; omega
  · rcases (e t' c').1 hh with ⟨rfl, rfl⟩ | hk'
    · simp only [and_self, if_true]
      exact ringNil_keep hr (hm.block g1 hr.1.lt (by omega))
    · simp only [ne t' c' hk', if_false]
      refine ringNil_keep (h.ring t' c' hk') (keep _ (lr t' c' hk') fun hh => ?_)
      have := (h.cr t' c' hk').2; rw [hh, h.cm.2] at this; unfold InK InR at hk'; omega
  · rw [if_neg (by omega), if_neg (by omega)]; exact h.cb.2
  · rw [if_neg (by omega), if_neg (by omega)]; exact h.cm.2
  · rcases (e t' c').1 hh with ⟨rfl, rfl⟩ | hk'
    · simp only [and_self, if_true]
      rw [if_neg (Ne.symm h12)]
      exact ⟨by omega, rfl⟩
    · simp only [ne t' c' hk', if_false]
      have := lo t' c' hk'
      rw [if_neg (by omega), if_neg (by omega)]
      exact h.co t' c' hk'
  · rcases (e t' c').1 hh with ⟨rfl, rfl⟩ | hk'
    · simp only [and_self, if_true]
      exact ⟨by omega, trivial⟩
    · simp only [ne t' c' hk', if_false]
      have := lr t' c' hk'
      rw [if_neg (by omega), if_neg (by omega)]
      exact h.cr t' c' hk'
  · refine h.below.trans ((hb.mono hws).trans (hm.below (fun j hj he => ?_) (Nat.le_trans hws hb.size)))
    have := h.cm.1; omega
end

/-- What New leaves: queues without packets. -/
def NewPost (w : World) (n most room : Int) (e : Ending) (w' : World) : Prop :=
  ∃ b mb f ob rb v col F, e = .returned (ptr b) ∧ QsIs w' b n most room 0 [] mb f ob rb v col F ∧ Below w.heap.size w w' ∧ ∀ k, F k → w.heap.size ≤ k
set_option maxRecDepth 100000 in
set_option maxHeartbeats 2000000 in
theorem new_yes (n : Nat) (most room : Int) (w : World) (hn : 1 ≤ n ∧ n ≤ 8) (hm : 1 ≤ most ∧ most ≤ 10000) (hr : 1 ≤ room ∧ room ≤ 1000000) :
    Calls Try.prog 8 #[.int .i64 n, .int .i64 most, .int .i64 room] w (NewPost w n most room) := by
  have H1 := Lib.hid (withinT (n := n) (lo := 1) (hi := 8) (by omega))
  have H2 := Lib.hid (withinT hm)
  have H3 := Lib.hid (withinT hr)
  obtain ⟨w0, rfl⟩ : ∃ w0, w0 = w := ⟨w, rfl⟩
  have hm65 : 1 ≤ most ∧ most ≤ 65536 := by omega
  have HM := Lib.hid hm65
  clear hm hr hm65
  have hmm := @run_makeMap Try.prog
  go_enter Try.func8, Try.ntmps8
  go_wp2_with fail
  refine (H1.out _).mono ?_
  rintro e w' ⟨rfl, rfl⟩
  go_wp2_with fail
  refine (H2.out _).mono ?_
  rintro e w' ⟨rfl, rfl⟩
  go_wp2_with fail
  refine (H3.out _).mono ?_
  rintro e w' ⟨rfl, rfl⟩
  go_wp2_with fail
  generalize hW : World.alloc _ _ = W0
  have hQ0 : ∃ mb f ob rb col, mb = w0.heap.size ∧ QsB w0 W0 (w0.heap.size + 1) (n : Int) most room 0 mb f ob rb col := by
    refine ⟨w0.heap.size, fun _ => none, fun _ _ => 0, fun _ _ => 0, fun j => if j = w0.heap.size then 1 else 0, rfl, ?_⟩
    rw [← hW]
    refine { blk := (Blk.new _ _ _).same_g (by simp), map := ⟨0, (MapIs.new w0 0).keep (Below.heap_alloc _ _ _ (by simp))⟩, key := fun t c hh => ?_, keyN := fun _ _ _ => rfl, keys := fun x y hxy => by simp at hxy, one := fun t c hh => ?_, ring := fun t c hh => ?_, cb := ⟨by omega, by simp⟩, cm := ⟨by omega, by simp⟩, co := fun t c hh => ?_, cr := fun t c hh => ?_, below := ((Below.refl _ _).alloc (Nat.le_refl _) _).alloc (by simp) _ }
    all_goals (unfold InK InR at hh; omega)
  have HQ0 := Lib.hid hQ0
  clear hW hQ0 hmm
  go_loopw [30] (fun i wr => ∃ k : Nat, k ≤ n ∧ i = .int .i64 k ∧ Hid (∃ mb f ob rb col, QsB w0 wr (w0.heap.size + 1) (n : Int) most room (3 * k) mb f ob rb col)) (fun i _ => n - (intOf i).toNat)
  case atStart => exact ⟨0, Nat.zero_le _, rfl, Lib.hid (by obtain ⟨mb, f, ob, rb, col, _, h⟩ := HQ0.out; exact ⟨mb, f, ob, rb, col, h⟩)⟩
  case round =>
    obtain ⟨k, hk, rfl, hQ⟩ := hrel
    by_cases hlt : k < n
    · clear HQ0
      go_wp2_with fail
      go_loopw [33] (fun i wr => ∃ j : Nat, j ≤ 3 ∧ i = .int .i64 j ∧ Hid (∃ mb f ob rb col, QsB w0 wr (w0.heap.size + 1) (n : Int) most room (3 * k + j) mb f ob rb col)) (fun i _ => 3 - (intOf i).toNat)
      case atStart => exact ⟨0, Nat.zero_le _, rfl, Lib.hid (by obtain ⟨mb, f, ob, rb, col, h⟩ := hQ.out; exact ⟨mb, f, ob, rb, col, by simpa using h⟩)⟩
      case round =>
        clear hQ
        obtain ⟨j, hj, rfl, hQ⟩ := hrel
        by_cases hj3 : j < 3
        · obtain ⟨mb, f, ob, rb, col, h⟩ := hQ.out
          have hj3' : (j : Int) < 3 := by omega
          have q1 : ∀ X : Cls fun W => Below wr.heap.size wr W, X.W.cell? ⟨w0.heap.size + 1, 0, none⟩ = some (.map (some mb)) := fun X => (sub_cell X _ _ h.blk.lt).trans (h.blk.cell 0)
          have hlb := h.blk.lt
          obtain ⟨m, hmap⟩ := h.map
          obtain ⟨l, hl⟩ := key_of (t := (k : Int)) (c := (j : Int)) (by go_wf) (by go_wf)
          have HH := Lib.hid (And.intro h (And.intro hmap hl))
          clear h hmap hl hQ
          go_upto_region 10 with fail
          refine wp_region_sub [8, 10, 11] (fun W => Below wr.heap.size wr W) (by kernel_rfl) (by kernel_rfl) ((Below.refl _ _).drew) (fun _ => ?_)
          iterate 8 (refine mix_read (by kernel_rfl) (by rfl) (by rfl) (by rfl) (of_decide_eq_true (by kernel_rfl)) ?_; apply Exists.intro; apply Exists.intro; refine ⟨fun w' hw' K hK => ?_, ?_, ?_⟩; (obtain ⟨X, rfl⟩ := hw'; go_wp2_with fail; first | exact ⟨rfl, rfl⟩ | exact rfl); rfl)
          (refine mix_act (by rfl) (by rfl) (fun K hK => ?_))
          go_wp2_with fail
          refine (ringNew_yes most _ HM.out).mono ?_
          rintro e W1 ⟨rfl, hb1, hr1⟩
          have hb1' : Below wr.heap.size wr W1 := (Below.refl wr.heap.size wr).drew.trans hb1
          have hz1 : wr.heap.size < W1.heap.size := hr1.1.lt
          have HH1 := Lib.hid (And.intro hb1' (And.intro hr1 hz1))
          clear hb1 hb1' hr1 hz1
          go_wp2_with fail
          refine ⟨.mk HH1.out.1, ?_⟩
          (refine mix_read (by kernel_rfl) (by rfl) (by rfl) (by rfl) (of_decide_eq_true (by kernel_rfl)) ?_; apply Exists.intro; apply Exists.intro; refine ⟨fun w' hw' K hK => ?_, ?_, ?_⟩; (obtain ⟨X, rfl⟩ := hw'; go_wp2_with fail; first | exact ⟨rfl, rfl⟩ | exact rfl); rfl)
          (refine mix_act (by rfl) (by rfl) (fun K hK => ?_))
          go_wp2_with fail
          refine ⟨.mk (HH1.out.1.alloc (Nat.le_of_lt HH1.out.2.2) _), ?_⟩
          (refine mix_last (by rfl) (by rfl) (by kernel_rfl) (fun K hK => ?_))
          refine wp_update_is ((HH.out.2.1.below HH1.out.1).keep (Below.heap_alloc _ _ _ (Nat.lt_of_lt_of_le HH.out.2.1.lt HH1.out.1.size))) key_law (.tmp 39) (.tmp 42) (.tmp 46) rfl Try.underlying58 rfl rfl rfl HH.out.2.2 ?_
          intro w3 hb3 hs3 hM3
          have hnx := HH.out.1.next (t := (k : Int)) (c := (j : Int)) ⟨by omega, by omega, by omega, by omega⟩ rfl (W1 := W1.alloc (.cells #[ptr wr.heap.size, .int .i64 0] 65)) (g1 := wr.heap.size) (g2 := W1.heap.size) (Nat.le_refl _) (Nat.le_of_lt HH1.out.2.2) (Nat.ne_of_lt HH1.out.2.2) (HH1.out.1.alloc (Nat.le_of_lt HH1.out.2.2) _)
            (ringNil_keep HH1.out.2.1 (Below.heap_alloc _ _ _ HH1.out.2.2)) (Blk.new _ _ _) hb3 (fun f' h1 h2 => ⟨_, hM3 f' h1 h2⟩)
          have HX := Lib.hid hnx
          clear hnx hM3 hb3 hs3 q1
          (simp [Act.put])
          refine hK _ _ ?_
          go_wp2_with fail
          go_roundw
          case rel => exact ⟨j + 1, by omega, by go_num, Lib.hid (by obtain ⟨f, ob, rb, col, h⟩ := HX.out; exact ⟨_, f, ob, rb, col, by rw [show (3 * (k : Int) + ((j + 1 : Nat) : Int)) = 3 * (k : Int) + j + 1 by omega]; exact h⟩)⟩
          case measure => simp [intOf]; omega
        · obtain rfl : j = 3 := by omega
          go_wp2_with fail
          go_roundw
          case rel => exact ⟨k + 1, by omega, by go_num, Lib.hid (by obtain ⟨mb, f, ob, rb, col, h⟩ := hQ.out; exact ⟨mb, f, ob, rb, col, by rw [show (3 * ((k + 1 : Nat) : Int)) = 3 * (k : Int) + ((3 : Nat) : Int) by omega]; exact h⟩)⟩
          case measure => simp [intOf]; omega
    · obtain rfl : k = n := by omega
      go_wp2_with fail
      go_ret
      obtain ⟨mb, f, ob, rb, col, h⟩ := hQ.out
      exact ⟨_, mb, f, ob, rb, _, col, _, rfl, h.done rfl, h.below, fun _ hk => hk.1⟩

set_option maxRecDepth 100000 in
theorem new_no (n most room : Int) (w : World) (h : ¬ ((1 ≤ n ∧ n ≤ 8) ∧ (1 ≤ most ∧ most ≤ 10000) ∧ (1 ≤ room ∧ room ≤ 1000000))) :
    Calls Try.prog 8 #[.int .i64 n, .int .i64 most, .int .i64 room] w fun e w' => e = .returned (.pointer none) ∧ w = w' := by
  by_cases h1 : 1 ≤ n ∧ n ≤ 8
  · have H1 := Lib.hid (withinT h1)
    by_cases h2 : 1 ≤ most ∧ most ≤ 10000
    · have H2 := Lib.hid (withinT h2)
      have H3 := Lib.hid (withinF (n := room) (lo := 1) (hi := 1000000) (fun h3 => h ⟨h1, h2, h3⟩))
      clear h h1 h2
      go_enter Try.func8, Try.ntmps8
      go_wp2_with fail
      refine (H1.out _).mono ?_
      rintro e w' ⟨rfl, rfl⟩
      go_wp2_with fail
      refine (H2.out _).mono ?_
      rintro e w' ⟨rfl, rfl⟩
      go_wp2_with fail
      refine (H3.out _).mono ?_
      rintro e w' ⟨rfl, rfl⟩
      go_wp2_with fail
      go_ret
      exact ⟨rfl, rfl⟩
    · have H2 := Lib.hid (withinF h2)
      clear h h1 h2
      go_enter Try.func8, Try.ntmps8
      go_wp2_with fail
      refine (H1.out _).mono ?_
      rintro e w' ⟨rfl, rfl⟩
      go_wp2_with fail
      refine (H2.out _).mono ?_
      rintro e w' ⟨rfl, rfl⟩
      go_wp2_with fail
      go_ret
      exact ⟨rfl, rfl⟩
  · have H1 := Lib.hid (withinF h1)
    clear h h1
    go_enter Try.func8, Try.ntmps8
    go_wp2_with fail
    refine (H1.out _).mono ?_
    rintro e w' ⟨rfl, rfl⟩
    go_wp2_with fail
    go_ret
    exact ⟨rfl, rfl⟩

end Go.Proofs.Ytkeiafiembfaeaa
