/- The document's queues: Heads. -/
import Derived.Test.YtkeiafiembfaeaaQuX
set_option linter.unusedSimpArgs false
set_option linter.unusedVariables false
namespace Go.Proofs.Ytkeiafiembfaeaa
open Go.RowKit Go.Shelf
attribute [local irreducible] wpMix

def plc (t c : Int) : List Pk → Int
  | [] => -1
  | p :: l => if inq t c p then 0 else if plc t c l < 0 then -1 else plc t c l + 1
theorem plc_none {t c : Int} : ∀ {L : List Pk}, (∀ q ∈ L, ¬ inq t c q = true) → plc t c L = -1
  | [], _ => rfl
  | p :: l, h => by
    rw [plc, if_neg (h p (by simp)), plc_none (L := l) fun q hq => h q (List.mem_cons_of_mem _ hq)]; rfl
theorem plc_some {t c : Int} {p : Pk} {l2 : List Pk} (hp : inq t c p = true) : ∀ {l1 : List Pk}, (∀ q ∈ l1, ¬ inq t c q = true) → plc t c (l1 ++ p :: l2) = (l1.length : Nat)
  | [], _ => by rw [List.nil_append, plc, if_pos hp]; rfl
  | q :: l, h => by
    rw [List.cons_append, plc, if_neg (h q (by simp)), plc_some hp (l1 := l) fun x hx => h x (List.mem_cons_of_mem _ hx), if_neg (by omega), List.length_cons]; omega
theorem PlaceAt.eq {L : List Pk} {t c r : Int} (h : PlaceAt L t c r) : r = plc t c L := by
  rcases h with ⟨l1, p, l2, rfl, h1, hp, rfl⟩ | ⟨h, rfl⟩
  · exact (plc_some hp h1).symm
  · exact (plc_none h).symm
theorem nos_inj {L : List Pk} (h : L.Pairwise (fun p q => p.1 < q.1)) {i j : Nat} {p : Pk} (hi : L[i]? = some p) (hj : L[j]? = some p) : i = j := by
  obtain ⟨h1, e1⟩ := List.getElem?_eq_some_iff.1 hi
  obtain ⟨h2, e2⟩ := List.getElem?_eq_some_iff.1 hj
  rcases Nat.lt_trichotomy i j with hlt | e | hlt
  · have := List.pairwise_iff_getElem.1 h i j h1 h2 hlt; rw [e1, e2] at this; omega
  · exact e
  · have := List.pairwise_iff_getElem.1 h j i h2 h1 hlt; rw [e1, e2] at this; omega
def headP (L : List Pk) (p : Pk) : Bool := decide ((qof L p.2.1.1 p.2.1.2.1).head? = some p)
theorem plc_head {L : List Pk} (hn : L.Pairwise (fun p q => p.1 < q.1)) {k : Nat} {p : Pk} (hk : L[k]? = some p) : (plc p.2.1.1 p.2.1.2.1 L == (k : Int)) = headP L p := by
  have hpm := List.mem_of_getElem? hk
  have hpi : inq p.2.1.1 p.2.1.2.1 p = true := by simp [inq]
  rw [Bool.eq_iff_iff, beq_iff_eq]
  unfold headP
  rw [decide_eq_true_eq]
  have hf : ∃ l1 q l2, L = l1 ++ q :: l2 ∧ (∀ x ∈ l1, ¬ inq p.2.1.1 p.2.1.2.1 x = true) ∧ inq p.2.1.1 p.2.1.2.1 q = true := by
    clear hk hn
    induction L with
    | nil => simp at hpm
    | cons a L ih =>
      by_cases ha : inq p.2.1.1 p.2.1.2.1 a = true
      · exact ⟨[], a, L, rfl, by simp, ha⟩
      · have hm : p ∈ L := by
          rcases List.mem_cons.1 hpm with e | e
          · subst e; exact absurd hpi ha
          · exact e
        obtain ⟨l1, q, l2, e, h1, h2⟩ := ih hm
        exact ⟨a :: l1, q, l2, by rw [e]; rfl, fun x hx => by rcases List.mem_cons.1 hx with e' | e'; exact e' ▸ ha; exact h1 x e', h2⟩
  obtain ⟨l1, q, l2, rfl, h1, hq⟩ := hf
  rw [plc_some hq h1]
  obtain ⟨m, hm⟩ := (place_some (l2 := l2) h1 hq).1
  rw [hm]
  have hql : (l1 ++ q :: l2)[l1.length]? = some q := by simp
  constructor
  · intro e
    have e' : l1.length = k := by omega
    rw [← e', hql] at hk
    cases hk; rfl
  · intro e
    cases e
    have := nos_inj hn hk hql
    omega
theorem heads_take {L : List Pk} {k : Nat} {p : Pk} (hk : L[k]? = some p) : (L.take (k + 1)).filter (headP L) = (L.take k).filter (headP L) ++ if headP L p = true then [p] else [] := by
  rw [List.take_add_one, hk, List.filter_append]
  congr 1
  by_cases h : headP L p = true
  · rw [if_pos h]; simp [h]
  · rw [if_neg h]; simp [h]

section
variable {w w' : World} {b : Nat} {n most room last : Int} {v : Value} {L : List Pk} {t c ti : Int} {s : ByteArray}
theorem rplaceQ (h : RqIs w b n most room last v L) (hL : L.length < 1000000000) (q : Nat) :
    Calls Try.prog 39 #[ptr b, .int .i64 t, .int .i64 c] (w.drewN q) fun e w' => e = .returned (.int .i64 (plc t c L)) ∧ w' = w.drewN q := by
  refine (rplace (t := t) (c := c) (h.keep (w' := w.drewN q) rfl fun _ _ => rfl) hL).mono ?_
  rintro e w' ⟨r, hr, rfl, rfl⟩
  exact ⟨by rw [hr.eq], rfl⟩

set_option maxRecDepth 100000 in
set_option maxHeartbeats 2000000 in
theorem rHeads (h : RqIs w b n most room last v L) (hL : L.length < 1000000) (hnos : L.Pairwise (fun p q => p.1 < q.1)) :
    Calls Try.prog 22 #[ptr b] w (HeadsPost w L) := by
  obtain ⟨A, cap, rfl, hcap⟩ := h.sl.len
  have H0 := Lib.hid (And.intro h hnos)
  clear h hnos
  obtain ⟨w0, rfl⟩ : ∃ w0, w0 = w := ⟨w, rfl⟩
  go_enter Try.func22, Try.ntmps22
  go_wp2_with fail
  go_loopg [3, 4] L.length (fun gk x z wr => ∃ k : Nat, k ≤ L.length ∧ L.length - k = gk ∧ z = .int .i64 k ∧ Hid (Below w0.heap.size w0 wr ∧ OwnsAt wr w0.heap.size 37 5 x ((L.take k).filter (headP L)).length (((L.take k).filter (headP L)).flatMap pC)))
  case atStart => exact ⟨0, by omega, rfl, rfl, Lib.hid ⟨Below.refl _ _, by simpa using OwnsAt.nil _ _ _ _⟩⟩
  case round =>
    obtain ⟨k, hk, hg, rfl, hI⟩ := hrel
    obtain ⟨Ax, capx, rfl, hcx⟩ := hI.out.2.len
    have hR := H0.out.1.below hI.out.1
    have c3 := hR.blk.cell 3
    by_cases hlt : k < L.length
    · have hlt' : (k : Int) < L.length := by omega
      obtain ⟨p, hp⟩ : ∃ p, L[k]? = some p := ⟨_, List.getElem?_eq_getElem hlt⟩
      obtain ⟨g, off, hA⟩ : ∃ g off, A = some ⟨g, off, none⟩ := by
        obtain ⟨b', o', c', e, _⟩ := H0.out.1.sl.sl.some (by omega)
        cases e; exact ⟨b', o', rfl⟩
      subst hA
      obtain ⟨e0, e1, e2, e3, e4⟩ := pk_at hR.sl.sl hp
      have hPL := Lib.hid (rplaceQ (t := p.2.1.1) (c := p.2.1.2.1) hR (by omega))
      have hph := plc_head H0.out.2 hp
      have hht := heads_take hp
      have hfl : ((L.take k).filter (headP L)).length ≤ k := Nat.le_trans (List.length_filter_le _ _) (by rw [List.length_take]; omega)
      obtain ⟨no, ⟨pt, pc, ps⟩, pat⟩ := p
      simp only at e0 e1 e2 e3 e4 hPL hph
      have HH := Lib.hid (And.intro hR hht)
      clear hR hht hp
      generalize (L.take k).filter (headP L) = hs at *
      generalize plc pt pc L = pl at *
      generalize headP L (no, (pt, pc, ps), pat) = hb at *
      go_upto_region 5 with fail
      go_quiet ((go_at_call 39; exact Calls.quiet_of_same (hPL.out _)))
      have hd' : Below wr.heap.size wr (wr.drewN nq) := below_drewN (Below.refl _ _) _
      have HD := Lib.hid (And.intro (hI.out.1.trans (hd'.mono hI.out.1.size)) (hI.out.2.below hd'))
      have c3' : (wr.drewN nq).cell? ⟨b, 3, none⟩ = some (.slice (some ⟨g, off, none⟩) L.length cap) := c3
      have e0' : (wr.drewN nq).cell? ⟨g, off + k * 5, none⟩ = some (.int .u64 no) := e0
      have e1' : (wr.drewN nq).cell? ⟨g, off + k * 5 + 1, none⟩ = some (.int .i64 pt) := e1
      have e2' : (wr.drewN nq).cell? ⟨g, off + k * 5 + 2, none⟩ = some (.int .i64 pc) := e2
      have e3' : (wr.drewN nq).cell? ⟨g, off + k * 5 + 3, none⟩ = some (.string ps) := e3
      have e4' : (wr.drewN nq).cell? ⟨g, off + k * 5 + 4, none⟩ = some (.int .u64 pat) := e4
      clear c3 e0 e1 e2 e3 e4 hI hPL hd' hph
      generalize wr.drewN nq = wd at *
      cases hb with
      | false =>
        have hh := HH.out.2
        rw [if_neg (by simp), List.append_nil] at hh
        have HHH := Lib.hid hh
        clear hh
        go_wp2_with fail
        go_roundg (L.length - (k + 1))
        case measure => omega
        case rel => exact ⟨k + 1, by omega, rfl, by go_num, Lib.hid ⟨HD.out.1, by rw [HHH.out]; exact HD.out.2⟩⟩
      | true =>
        have hh := HH.out.2
        rw [if_pos rfl] at hh
        have HHH := Lib.hid hh
        obtain ⟨i0, hi, hz0, hz1, hz2⟩ := info_parts pk_info
        have hws := HD.out.1.size
        clear hh
        go_wp2_with (at_builtin; refine wpList_append_at rfl (.tmp 34) (.tmp 42) 43 rfl w0.heap.size 37 i0 (.agg #[.int .u64 0, .int .i64 0, .int .i64 0, .string ByteArray.empty, .int .u64 0]) 5 48 Try.underlying43 hi hz0 hz1 hz2 rfl (by decide) (.slice Ax hs.length capx) hs.length (hs.flatMap pC) rfl (HD.out.2.below ((Below.refl _ _).alloc (Nat.le_refl _) _)) ⟨wd.heap.size, 0, none⟩ 1 [.int .u64 no, .int .i64 pt, .int .i64 pc, .string ps, .int .u64 pat] rfl rfl (fun j u hj => by rw [Addr.add_lit, Nat.zero_add, (Blk.new wd 37 #[.int .u64 no, .int .i64 pt, .int .i64 pc, .string ps, .int .u64 pat]).cell j, ← Array.getElem?_toList]; exact hj) (fun u hu => by simp at hu; rcases hu with rfl | rfl | rfl | rfl | rfl <;> rfl) (by simp; omega) (by unfold maxLen; omega) (by omega) ?_; intro v' w5 ho5 hg5 hv5; obtain ⟨A5, cap5, rfl, _⟩ := ho5.len; have HY := Lib.hid (And.intro ho5 hg5); clear ho5 hg5 hv5)
        go_roundg (L.length - (k + 1))
        case measure => omega
        case rel =>
          obtain ⟨ho5, hg5⟩ := HY.out
          refine ⟨k + 1, by omega, rfl, by go_num, Lib.hid ⟨?_, ?_⟩⟩
          · exact (HD.out.1.alloc hws _).trans (grown_below hg5 (fun k hk => (HD.out.2.lt k hk).1) (by simp; omega))
          · rw [HHH.out, List.length_append, List.flatMap_append, List.flatMap_cons, List.flatMap_nil, List.append_nil]; exact ho5
    · obtain rfl : k = L.length := by omega
      have hfin : (L.take L.length).filter (headP L) = heads L := by rw [List.take_length]; rfl
      have HFN := Lib.hid hfin
      clear hfin
      go_wp2_with fail
      go_ret
      refine ⟨_, rfl, ?_, hI.out.1⟩
      rw [← HFN.out]
      exact hI.out.2
end

section
variable {w0 w : World} {B b : Nat} {n most room last : Int} {L : List Pk} {Ts : List Thing} {i : Nat} {t c ti : Int} {s : ByteArray}
theorem srTake (h : Sep B w0 w Ts) (hi : Ts[i]? = some (RqT b n most room last L)) (hL : L.length < 1000000) :
    Calls Try.prog 14 #[ptr b, .int .i64 t, .int .i64 c] w fun e w' => e = .returned (hd (qof L t c)) ∧ Sep B w0 w' (Ts.set i (RqT b n most room last (qdrop L t c))) := by
  refine h.call i (R := fun e => e = .returned (hd (qof L t c))) hi (RqT.loc _ _ _ _ _ _) fun F hF => ?_
  obtain ⟨v, hQ, hF⟩ := hF
  exact (rTake hQ hL).mono fun e w' ⟨h1, h2⟩ => ⟨h1, rqPut_acts hF h2⟩
theorem srHeads (h : Sep B w0 w Ts) (hi : Ts[i]? = some (RqT b n most room last L)) (hL : L.length < 1000000) (hnos : L.Pairwise (fun p q => p.1 < q.1)) :
    Calls Try.prog 22 #[ptr b] w fun e w' => ∃ x, e = .returned x ∧ OwnsAt w' w.heap.size 37 5 x (heads L).length ((heads L).flatMap pC) ∧ Sep B w0 w' Ts ∧ Below w.heap.size w w' := by
  obtain ⟨F, v, hQ, hF⟩ := h.look i hi
  exact (rHeads hQ hL hnos).mono fun e w' ⟨x, h1, h2, h3⟩ => ⟨x, h1, h2, h.below h3, h3⟩
end

end Go.Proofs.Ytkeiafiembfaeaa
