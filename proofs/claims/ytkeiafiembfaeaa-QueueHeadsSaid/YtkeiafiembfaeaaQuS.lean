/- QueueHeads, plainly: how many queues have packets. -/
import Derived.Test.YtkeiafiembfaeaaQuR
set_option linter.unusedSimpArgs false
set_option linter.unusedVariables false
namespace Go.Proofs.Ytkeiafiembfaeaa
open Go.RowKit Go.Shelf

def qkey (p : Pk) : Int := 3 * p.2.1.1 + p.2.1.2.1
/-- Packets in the queues below k. -/
def cntK (L : List Pk) (k : Int) : Nat := (L.filter fun p => decide (qkey p < k)).length
/-- Queues below k that have packets. -/
def someK (L : List Pk) (k : Nat) : Nat := ((List.range k).filter fun j => !(qof L ((j / 3 : Nat) : Int) ((j % 3 : Nat) : Int)).isEmpty).length
section
variable {L : List Pk}
theorem cntK_le (L : List Pk) (k : Int) : cntK L k ≤ L.length := List.length_filter_le _ _
theorem cntK_next (h : ∀ p ∈ L, InR 8 p.2.1.1 p.2.1.2.1) {t c : Int} (ht : InR 8 t c) : cntK L (3 * t + c + 1) = cntK L (3 * t + c) + (qof L t c).length := by
  unfold cntK qof
  induction L with
  | nil => rfl
  | cons p L ih =>
    have ih' := ih (fun q hq => h q (List.mem_cons_of_mem _ hq))
    have hp := h p (by simp)
    unfold InR at hp ht
    have e : inq t c p = true ↔ qkey p = 3 * t + c := by
      simp only [inq, Bool.and_eq_true, beq_iff_eq]
      unfold qkey
      constructor
      · rintro ⟨h1, h2⟩; rw [h1, h2]
      · intro hh; omega
    rw [List.filter_cons, List.filter_cons, List.filter_cons]
    by_cases h1 : qkey p < 3 * t + c
    · rw [if_pos (by simp; omega), if_pos (by simp; omega), if_neg (by rw [e]; omega), List.length_cons, List.length_cons, ih']; omega
    · by_cases h2 : qkey p = 3 * t + c
      · rw [if_pos (by simp; omega), if_neg (by simp; omega), if_pos (e.2 h2), List.length_cons, List.length_cons, ih']; omega
      · rw [if_neg (by simp; omega), if_neg (by simp; omega), if_neg (by rw [e]; exact h2), ih']
theorem cntK_zero (h : ∀ p ∈ L, InR 8 p.2.1.1 p.2.1.2.1) : cntK L 0 = 0 := by
  unfold cntK
  rw [List.length_eq_zero_iff, List.filter_eq_nil_iff]
  intro p hp hh
  have := h p hp
  unfold InR at this
  have hh' : qkey p < 0 := of_decide_eq_true hh
  unfold qkey at hh'
  omega
theorem cntK_all (h : ∀ p ∈ L, InR 8 p.2.1.1 p.2.1.2.1) : cntK L 24 = L.length := by
  unfold cntK
  rw [List.filter_eq_self.2]
  intro p hp
  have := h p hp
  unfold InR at this
  refine decide_eq_true (show qkey p < 24 from ?_)
  unfold qkey
  omega
theorem someK_next (L : List Pk) (t c : Nat) (hc : c < 3) : someK L (3 * t + c + 1) = someK L (3 * t + c) + if (qof L (t : Int) (c : Int)).isEmpty then 0 else 1 := by
  unfold someK
  rw [List.range_succ, List.filter_append, List.length_append]
  congr 1
  rw [List.filter_cons, List.filter_nil, show (3 * t + c) / 3 = t by omega, show (3 * t + c) % 3 = c by omega]
  cases (qof L (t : Int) (c : Int)).isEmpty <;> rfl
theorem someK_le (L : List Pk) (k : Nat) : someK L k ≤ k := by unfold someK; have := List.length_filter_le (fun j : Nat => !(qof L ((j / 3 : Nat) : Int) ((j % 3 : Nat) : Int)).isEmpty) (List.range k); simpa using this
theorem mem_heads {p : Pk} : p ∈ heads L ↔ p ∈ L ∧ (qof L p.2.1.1 p.2.1.2.1).head? = some p := by
  unfold heads; rw [List.mem_filter, decide_eq_true_eq]
theorem someK_all {n most room last : Int} (ok : QsOk n most room last L) : someK L 24 = (heads L).length := by
  have hR : ∀ p ∈ L, InR 8 p.2.1.1 p.2.1.2.1 := fun p hp => by have := ok.inR p hp; have := ok.n8; unfold InR at *; omega
  have hn : ((heads L).map fun p => (qkey p).toNat).Nodup := by
    refine List.pairwise_map.2 ?_
    have hpw : (heads L).Pairwise (fun p q => p.1 < q.1) := List.Pairwise.filter _ ok.nos
    refine List.Pairwise.imp_of_mem (fun {p q} hp hq hlt e => ?_) hpw
    have h1 := mem_heads.1 hp
    have h2 := mem_heads.1 hq
    have r1 := hR p h1.1
    have r2 := hR q h2.1
    unfold InR qkey at *
    have et : p.2.1.1 = q.2.1.1 := by omega
    have ec : p.2.1.2.1 = q.2.1.2.1 := by omega
    have h1' := h1.2
    rw [et, ec, h2.2] at h1'
    cases h1'
    omega
  have hn2 : ((List.range 24).filter fun j => !(qof L ((j / 3 : Nat) : Int) ((j % 3 : Nat) : Int)).isEmpty).Nodup := List.Pairwise.filter _ List.nodup_range
  have sub1 : ∀ x ∈ (heads L).map (fun p => (qkey p).toNat), x ∈ (List.range 24).filter fun j => !(qof L ((j / 3 : Nat) : Int) ((j % 3 : Nat) : Int)).isEmpty := by
    intro x hx
    obtain ⟨p, hp, rfl⟩ := List.mem_map.1 hx
    have h1 := mem_heads.1 hp
    have r1 := hR p h1.1
    unfold InR at r1
    rw [List.mem_filter, List.mem_range]
    have e1 : (((qkey p).toNat / 3 : Nat) : Int) = p.2.1.1 := by unfold qkey; omega
    have e2 : (((qkey p).toNat % 3 : Nat) : Int) = p.2.1.2.1 := by unfold qkey; omega
    refine ⟨by unfold qkey; omega, ?_⟩
    rw [e1, e2]
    cases hq : qof L p.2.1.1 p.2.1.2.1 with
    | nil => rw [hq] at h1; cases h1.2
    | cons a l => rfl
  have sub2 : ∀ x ∈ (List.range 24).filter (fun j => !(qof L ((j / 3 : Nat) : Int) ((j % 3 : Nat) : Int)).isEmpty), x ∈ (heads L).map (fun p => (qkey p).toNat) := by
    intro x hx
    rw [List.mem_filter, List.mem_range] at hx
    cases hq : qof L ((x / 3 : Nat) : Int) ((x % 3 : Nat) : Int) with
    | nil => rw [hq] at hx; simp at hx
    | cons p l =>
      have hpm : p ∈ qof L ((x / 3 : Nat) : Int) ((x % 3 : Nat) : Int) := by rw [hq]; simp
      have hpf := hpm
      unfold qof at hpf
      rw [List.mem_filter] at hpf
      have hi := hpf.2
      simp only [inq, Bool.and_eq_true, beq_iff_eq] at hi
      refine List.mem_map.2 ⟨p, mem_heads.2 ⟨hpf.1, ?_⟩, ?_⟩
      · rw [hi.1, hi.2, hq]; rfl
      · unfold qkey; rw [hi.1, hi.2]; omega
  have l1 := nodup_len hn sub1
  have l2 := nodup_len hn2 sub2
  rw [List.length_map] at l1 l2
  unfold someK
  omega
theorem qb_pos {l : List Pk} (h : ∀ p ∈ l, 1 ≤ p.2.1.2.2.size) : (qb l = 0) = (l.length = 0) := by
  apply propext
  cases l with
  | nil => simp [qb]
  | cons p l =>
    have h1 := h p (by simp)
    have h2 : qb (p :: l) = p.2.1.2.2.size + qb l := by simp [qb]
    rw [h2, List.length_cons]
    constructor
    · intro h0; omega
    · intro h0; omega
theorem qof_mem {t c : Int} {p : Pk} (h : p ∈ qof L t c) : p ∈ L ∧ p.2.1.1 = t ∧ p.2.1.2.1 = c := by
  unfold qof at h
  rw [List.mem_filter] at h
  have hi := h.2
  simp only [inq, Bool.and_eq_true, beq_iff_eq] at hi
  exact ⟨h.1, hi.1, hi.2⟩
/-- What a head's queue gives first. -/
theorem heads_hd {p : Pk} (h : p ∈ heads L) : hd (qof L p.2.1.1 p.2.1.2.1) = .tuple #[pV p, .bool true] := by
  have := (mem_heads.1 h).2
  cases hq : qof L p.2.1.1 p.2.1.2.1 with
  | nil => rw [hq] at this; cases this
  | cons a l => rw [hq] at this; cases this; rfl
end

end Go.Proofs.Ytkeiafiembfaeaa
