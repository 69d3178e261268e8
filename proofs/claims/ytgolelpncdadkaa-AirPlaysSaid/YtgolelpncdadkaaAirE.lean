/- Pass: what comes of a frame. -/
import Derived.Test.YtgolelpncdadkaaAirD
set_option linter.unusedSimpArgs false
set_option linter.unusedVariables false
namespace Go.Proofs.Ytgolelpncdadkaa
open Go.RowKit Go.Shelf
attribute [local go_sem] Oper.semAt_some
attribute [local irreducible] wpMix

/-- Bytes that lie in block g, from its first cell on. -/
def BytesAt (w : World) (g : Nat) (bs : List UInt8) : Prop := ∃ (cs : Array Value) (t : TypeId) (fz : Nat × Nat), w.heap[g]? = some (.cells cs t fz) ∧ bs.length ≤ fz.1 ∧ ∀ j (hj : j < bs.length), cs[j]? = some (.int .u8 (bs[j].toNat : Int))

section
variable {w w' : World} {g : Nat} {bs : List UInt8}
theorem BytesAt.lt (h : BytesAt w g bs) : g < w.heap.size := by
  obtain ⟨cs, t, fz, hh, _⟩ := h
  exact (Array.getElem?_eq_some_iff.1 hh).1
theorem BytesAt.cell (h : BytesAt w g bs) (j : Nat) (hj : j < bs.length) : w.cell? ⟨g, j, none⟩ = some (.int .u8 (bs[j].toNat : Int)) := by
  obtain ⟨cs, t, fz, hh, hf, hc⟩ := h
  rw [cell_of_row w g j cs t fz hh]; exact hc j hj
theorem BytesAt.frozen (h : BytesAt w g bs) (j : Nat) (hj : j < bs.length) : w.frozen? ⟨g, j, none⟩ = false := by
  obtain ⟨cs, t, fz, hh, hf, hc⟩ := h
  simp only [World.frozen?, hh]
  simp; omega
theorem BytesAt.keep (h : BytesAt w g bs) (hk : w'.heap[g]? = w.heap[g]?) : BytesAt w' g bs := by
  obtain ⟨cs, t, fz, hh, hf, hc⟩ := h
  exact ⟨cs, t, fz, hk.trans hh, hf, hc⟩
theorem BytesAt.set_ (h : BytesAt w g bs) (j : Nat) (hj : j < bs.length) (x : UInt8) : BytesAt (w.setCell ⟨g, j, none⟩ (.int .u8 (x.toNat : Int))) g (bs.set j x) := by
  obtain ⟨cs, t, fz, hh, hf, hc⟩ := h
  refine ⟨cs.setIfInBounds j (.int .u8 (x.toNat : Int)), t, fz, ?_, by simpa using hf, ?_⟩
  · simp [World.setCell, Array.getElem?_modify, hh]
  · intro i hi
    simp only [List.length_set] at hi
    have hjc : j < cs.size := (Array.getElem?_eq_some_iff.1 (hc j hj)).1
    by_cases e : j = i
    · subst e
      simp [hjc]
    · rw [Array.getElem?_setIfInBounds_ne (by omega), hc i hi, List.getElem_set_ne e]
end
theorem BytesAt.of_string (w : World) (s : ByteArray) (cap : Nat) (t : TypeId) : BytesAt (w.alloc (.cells (bytesRow s cap) t ((bytesRow s cap).size, (bytesRow s cap).size + 1))) w.heap.size s.data.toList := by
  refine ⟨_, _, _, World.alloc_heap_new w _, ?_, ?_⟩
  · simp [bytesRow]
  · intro j hj
    rw [bytesRow_at s cap j (by simpa using hj)]
    simp
theorem Ign.bytes {β : Type} {T : Nat → Prop} {g : β → Nat} {bs : β → List UInt8} (hg : ∀ s, ¬ T (g s)) : Ign T (fun (s : β) W => BytesAt W (g s) (bs s)) :=
  fun s A A' hs hb => hs.keep (hb.block _ hs.lt (hg s))

/-- One bit turned. -/
def flipB (c : UInt8) (k : Nat) : UInt8 := c ^^^ (128 >>> UInt8.ofNat (k % 8))
def flip1 (bs : List UInt8) (k : Nat) : List UInt8 := if h : k / 8 < bs.length then bs.set (k / 8) (flipB bs[k / 8] k) else bs
theorem flip1_len (bs : List UInt8) (k : Nat) : (flip1 bs k).length = bs.length := by
  unfold flip1; split <;> simp
theorem flips_len (l : List Nat) : ∀ bs : List UInt8, (l.foldl flip1 bs).length = bs.length := by
  induction l with
  | nil => intro bs; rfl
  | cons k l ih => intro bs; rw [List.foldl_cons, ih, flip1_len]

theorem take_mask_air {F : Nat → Prop} {b n : Nat} {ms : List Int} {ts : List (Int × Int)} {w : World} (h : AirInv w F b n ms ts) (hl : ms.length ≤ 4096) :
    Calls Try.prog 24 #[.pointer (some ⟨b, 1, none⟩)] w fun e w' => e = .returned (.tuple #[.int .i64 (ms.headD 0), .bool (!ms.isEmpty)]) ∧ AirInv w' F b n ms.tail ts ∧ But (fun k => k = b) w.heap.size w w' := by
  have h0 := h
  obtain ⟨v1, v2, hB, h1, h2, n1, n2, n3, hF⟩ := h
  cases ms with
  | nil =>
    refine (take_mask_none b _ v1 v2 _ w hB h1).mono ?_
    rintro e w' ⟨rfl, rfl⟩
    exact ⟨rfl, h0, But.refl _ _ _⟩
  | cons x xs =>
    refine (take_mask b _ v1 v2 xs.length x _ w hB h1 n1 (by simp at hl; omega)).mono ?_
    rintro e w' ⟨rfl, v', hB', h1', hb, ho⟩
    refine ⟨rfl, ⟨v', v2, hB', h1', h2.but hb (fun k hk => ⟨(h2.lt k hk).2, fun e => n2 (e ▸ hk)⟩), by rw [ho]; exact n1, n2, by rw [ho]; exact n3, by rw [ho]; exact hF⟩, hb⟩

theorem take_turn_air {F : Nat → Prop} {b n : Nat} {ms : List Int} {ts : List (Int × Int)} {w : World} (h : AirInv w F b n ms ts) (hl : ts.length ≤ 4096) :
    Calls Try.prog 25 #[.pointer (some ⟨b, 2, none⟩)] w fun e w' => e = .returned (.tuple #[.agg #[.int .i64 (ts.headD (0, 0)).1, .int .i64 (ts.headD (0, 0)).2], .bool (!ts.isEmpty)]) ∧ AirInv w' F b n ms ts.tail ∧ But (fun k => k = b) w.heap.size w w' := by
  have h0 := h
  obtain ⟨v1, v2, hB, h1, h2, n1, n2, n3, hF⟩ := h
  cases ts with
  | nil =>
    refine (take_turn_none b _ v1 v2 _ w hB h2).mono ?_
    rintro e w' ⟨rfl, hb⟩
    exact ⟨rfl, h0.below hb, .of_below hb⟩
  | cons x xs =>
    refine (take_turn b _ v1 v2 xs.length x.1 x.2 _ w hB h2 n2 (by simp at hl; omega)).mono ?_
    rintro e w' ⟨rfl, v', hB', h1', hb, ho⟩
    refine ⟨rfl, ⟨v1, v', hB', h1.but hb (fun k hk => ⟨(h1.lt k hk).2, fun e => n1 (e ▸ hk)⟩), h1', n1, by rw [ho]; exact n2, by rw [ho]; exact n3, by rw [ho]; exact hF⟩, hb⟩

theorem bits_any (a m : Int) (w : World) :
    Calls Try.prog 26 #[.agg #[.int .i64 a, .int .i64 m]] w fun e w' => e = .returned (.func (.func 27) #[] #[.pointer (some ⟨w.heap.size, 0, none⟩)]) ∧ w.alloc (.cells #[.int .i64 a, .int .i64 m] 56) = w' := by
  go_enter Try.func26, Try.ntmps26
  go_wp2_with fail
  go_ret
  exact ⟨rfl, rfl⟩

end Go.Proofs.Ytgolelpncdadkaa
