/- What was given and accepted; the packets' bytes by their terminals and classes. -/
import Derived.Test.YtkpfebgmfkaglaaProg
import Derived.Test.YtkpfebgmfkaglaaMap
import Derived.Test.YtkpfebgmfkaglaaSl
import Derived.Test.YtkpfebgmfkaglaaReg
import Derived.Deep.CutRange
import Derived.Deep.CutBlock
set_option linter.unusedSimpArgs false
set_option linter.unusedVariables false
namespace Go.Proofs.Ytkpfebgmfkaglaa
open Go.RowKit
open Go.Maps (Keyed)

/-- A packet given: terminal, class, bytes. One accepted has a number and a time besides. -/
abbrev Gv := Int × Int × ByteArray
abbrev Pk := Int × Gv × Int
def gC (g : Gv) : List Value := [.int .i64 g.1, .int .i64 g.2.1, .string g.2.2]
def pC (p : Pk) : List Value := [.int .u64 p.1, .int .i64 p.2.1.1, .int .i64 p.2.1.2.1, .string p.2.1.2.2, .int .u64 p.2.2]
theorem gC_len (g : Gv) : (gC g).length = 3 := rfl
theorem pC_len (p : Pk) : (pC p).length = 5 := rfl
def wfG (g : Gv) : Prop := (Lit.int .i64 g.1).wf = true ∧ (Lit.int .i64 g.2.1).wf = true

abbrev kv (t c : Int) : Value := .agg #[.int .i64 t, .int .i64 c]
def nilS : Value := .slice none 0 0
def strs (l : List ByteArray) : List Value := l.map Value.string

theorem str_info : (Try.prog.info? 9).map (fun i => (i.zero, i.size, i.bytes)) = some (some (.string ByteArray.empty), 1, 16) := by kernel_rfl
theorem types_pos : ∃ m, Try.prog.types.size = m + 1 := by
  have h : 0 < Try.prog.types.size := of_decide_eq_true (by kernel_rfl)
  exact ⟨Try.prog.types.size - 1, by omega⟩
theorem key_arr : Go.WideMaps.ArrKey Try.prog 80 3 2 := ⟨Try.underlying80, by kernel_rfl, by kernel_rfl, by kernel_rfl⟩
theorem key_law : Keyed Try.prog 80 := Keyed.of_law key_arr.law
theorem key_of {t c : Int} (ht : (Lit.int .i64 t).wf = true) (hc : (Lit.int .i64 c).wf = true) : ∃ l, keyOf Try.prog 80 (kv t c) = some l :=
  ⟨_, Go.WideMaps.keyOf_pair key_arr Try.underlying3 types_pos ht hc⟩
theorem zero_strs (w : World) : (zeroValue 57).run Try.prog w = .ok nilS w := by kernel_rfl

/-- Block b is a map of the bytes, by terminals and classes; no two slices share a block; all lie from base on. -/
def Grp (w : World) (base b : Nat) (G : Int → Int → List ByteArray) : Prop :=
  ∃ n f, MapIs Try.prog 80 w b n f ∧ base ≤ b ∧ (∀ t c, OwnsAt w base 9 1 ((f (kv t c)).getD nilS) (G t c).length (strs (G t c))) ∧
    ∀ t c t' c' g, ¬ (t = t' ∧ c = c') → ((f (kv t c)).getD nilS).ownBlock = some g → ((f (kv t' c')).getD nilS).ownBlock ≠ some g

/-- The bytes of a terminal and class. -/
def ofK (l : List Gv) (t c : Int) : List ByteArray := (l.filter fun g => g.1 == t && g.2.1 == c).map (·.2.2)

theorem ofK_snoc (l : List Gv) (g : Gv) (t c : Int) : ofK (l ++ [g]) t c = ofK l t c ++ if g.1 = t ∧ g.2.1 = c then [g.2.2] else [] := by
  unfold ofK
  rw [List.filter_append, List.map_append]
  congr 1
  by_cases h : g.1 = t ∧ g.2.1 = c
  · rw [if_pos h, List.filter_cons, if_pos (by simp [h.1, h.2])]; rfl
  · rw [if_neg h, List.filter_cons, if_neg (by simpa using h)]; rfl
theorem ofK_len (l : List Gv) (t c : Int) : (ofK l t c).length ≤ l.length := by
  unfold ofK; rw [List.length_map]; exact List.length_filter_le _ _
theorem kv_ne {t c t' c' : Int} (h : ¬ (t = t' ∧ c = c')) : kv t' c' ≠ kv t c := by
  intro e
  unfold kv at e
  simp only [Value.agg.injEq, Array.mk.injEq, List.cons.injEq, Value.int.injEq, true_and, and_true] at e
  exact h ⟨e.1.symm, e.2.symm⟩
/-- A slice's block is no map's. -/
theorem OwnsAt.ne_map {P : Program} {K : TypeId} {w : World} {base b n m size : Nat} {e : TypeId} {f : Value → Option Value} {v : Value} {xs : List Value} (h : OwnsAt w base e size v m xs) (hM : MapIs P K w b n f) : v.ownBlock ≠ some b := by
  obtain ⟨_, ⟨rfl, _⟩ | ⟨g, off, cap, cur, rfl, _, hB, _⟩⟩ := h
  · simp [Value.ownBlock]
  · simp only [Value.ownBlock]
    intro e
    cases e
    obtain ⟨es, cl, hb, _⟩ := hM
    unfold Blk at hB
    rw [hb] at hB
    cases hB

theorem below_grown {w w' : World} {r : Option Nat} {B : Nat} (h : w.grownBy w' r) (hr : ∀ k, r = some k → B ≤ k) (hB : B ≤ w.heap.size) : Below B w w' :=
  ⟨h.os, h.tape, h.output, h.size, fun k hk => h.block k (by omega) (fun e => by have := hr k e.symm; omega)⟩
theorem below_but {S : Nat → Prop} {w w' : World} {B : Nat} (h : But S w.heap.size w w') (hS : ∀ k, S k → B ≤ k) (hB : B ≤ w.heap.size) : Below B w w' :=
  h.below (fun k hk hs => by have := hS k hs; omega) hB

open Classical in
theorem Grp.step {w w2 w3 w4 : World} {base b n n' : Nat} {f : Value → Option Value} {G : Int → Int → List ByteArray} {t c : Int} {s : ByteArray} {v' : Value}
    (hM : MapIs Try.prog 80 w b n f) (hB : base ≤ b) (ho : ∀ t c, OwnsAt w base 9 1 ((f (kv t c)).getD nilS) (G t c).length (strs (G t c)))
    (hd : ∀ t c t' c' g, ¬ (t = t' ∧ c = c') → ((f (kv t c)).getD nilS).ownBlock = some g → ((f (kv t' c')).getD nilS).ownBlock ≠ some g)
    (h12 : But (fun j => j = b) w.heap.size w w2) (hg : w2.grownBy w3 ((f (kv t c)).getD nilS).ownBlock)
    (ho' : OwnsAt w3 base 9 1 v' ((G t c).length + 1) (strs (G t c) ++ [.string s])) (hv : v'.ownBlock = ((f (kv t c)).getD nilS).ownBlock ∨ ∃ g, v'.ownBlock = some g ∧ w2.heap.size ≤ g)
    (h34 : But (fun j => j = b) w3.heap.size w3 w4) (hM' : MapIs Try.prog 80 w4 b n' (fun k => if k = kv t c then some v' else f k)) :
    Grp w4 base b (fun t' c' => G t' c' ++ if t = t' ∧ c = c' then [s] else []) := by
  have hnb : v'.ownBlock ≠ some b := by
    rcases hv with h | ⟨g, h, hlt⟩
    · rw [h]; exact (ho t c).ne_map hM
    · rw [h]; intro e; cases e; have := hM.lt; have := h12.size; omega
  have fk : ∀ t' c', (if kv t' c' = kv t c then some v' else f (kv t' c')) = if t = t' ∧ c = c' then some v' else f (kv t' c') := by
    intro t' c'
    by_cases hq : t = t' ∧ c = c'
    · obtain ⟨rfl, rfl⟩ := hq; simp
    · rw [if_neg (kv_ne hq), if_neg hq]
  refine ⟨n', _, hM', hB, fun t' c' => ?_, fun t1 c1 t2 c2 g hkk hk hk' => ?_⟩
  · show OwnsAt w4 base 9 1 ((if kv t' c' = kv t c then some v' else f (kv t' c')).getD nilS) (G t' c' ++ if t = t' ∧ c = c' then [s] else []).length (strs (G t' c' ++ if t = t' ∧ c = c' then [s] else []))
    rw [fk]
    by_cases hq : t = t' ∧ c = c'
    · obtain ⟨rfl, rfl⟩ := hq
      simp only [and_self, if_true, Option.getD_some]
      rw [List.length_append, List.length_singleton, strs, List.map_append]
      exact ho'.keep fun j hj => h34.block j (ho'.lt j hj).2 (fun e => hnb (e ▸ hj))
    · rw [if_neg hq, if_neg hq, List.append_nil]
      have hO := ho t' c'
      refine hO.keep fun j hj => ?_
      have hjb : j ≠ b := fun e => hO.ne_map hM (e ▸ hj)
      have hjl := (hO.lt j hj).2
      have h1 := h12.block j hjl hjb
      have h2 := hg.block j (Nat.lt_of_lt_of_le hjl h12.size) (fun e => hd _ _ _ _ j hq e.symm hj)
      have h3 := h34.block j (Nat.lt_of_lt_of_le hjl (Nat.le_trans h12.size hg.size)) hjb
      exact h3.trans (h2.trans h1)
  · rw [fk] at hk hk'
    have hown : ∀ g, v'.ownBlock = some g → ∀ t' c', ¬ (t = t' ∧ c = c') → ((f (kv t' c')).getD nilS).ownBlock ≠ some g := by
      intro g hg' t' c' hkk hk
      rcases hv with h | ⟨g', h, hlt⟩
      · rw [h] at hg'; exact hd _ _ _ _ g hkk hg' hk
      · rw [h] at hg'
        cases hg'
        have := ((ho t' c').lt _ hk).2
        have := h12.size
        omega
    by_cases e1 : t = t1 ∧ c = c1
    · rw [if_pos e1] at hk
      have e2 : ¬ (t = t2 ∧ c = c2) := fun e => hkk ⟨e1.1.symm.trans e.1, e1.2.symm.trans e.2⟩
      rw [if_neg e2] at hk'
      exact hown g hk t2 c2 e2 hk'
    · rw [if_neg e1] at hk
      by_cases e2 : t = t2 ∧ c = c2
      · rw [if_pos e2] at hk'
        exact hown g hk' t1 c1 e1 hk
      · rw [if_neg e2] at hk'
        exact hd _ _ _ _ g hkk hk hk'

open Classical in
set_option maxRecDepth 100000 in
set_option maxHeartbeats 2000000 in
theorem sorted_ok (v : Value) (acc : List Pk) (w : World) (hv : SlAt w 5 v acc.length (acc.flatMap pC)) (hw : ∀ p ∈ acc, wfG p.2.1) (hn : acc.length ≤ 1000000) :
    Calls Try.prog 28 #[v] w fun e w' => ∃ b, e = .returned (.map (some b)) ∧ Below w.heap.size w w' ∧ Grp w' w.heap.size b (ofK (acc.map (·.2.1))) := by
  obtain ⟨A, cap, rfl, hc, hm⟩ := hv.len
  have HV := Lib.hid (And.intro hv hw)
  have hmm := @run_makeMap Try.prog
  obtain ⟨i0, hi, hz0, hz1, hz2⟩ := info_parts str_info
  clear hv hw
  go_enter Try.func28, Try.ntmps28
  go_wp2_with fail
  go_loopg [10] acc.length (fun gk p wr => ∃ k, k ≤ acc.length ∧ acc.length - k = gk ∧ p = .int .i64 (k : Nat) ∧ Below w.heap.size w wr ∧ Grp wr w.heap.size w.heap.size (ofK ((acc.take k).map (·.2.1))))
  case atStart =>
    refine ⟨0, by omega, rfl, rfl, (Below.refl _ _).alloc (Nat.le_refl _) _, 0, fun _ => none, MapIs.new _ _, Nat.le_refl _, fun t c => ?_, by simp [nilS, Value.ownBlock]⟩
    exact OwnsAt.nil _ _ _ _
  case round =>
    obtain ⟨k, hk, rfl, rfl, hb, hG⟩ := hrel
    have HG := Lib.hid (And.intro hb hG)
    have hle := hb.size
    clear hb hG
    by_cases hlt : k < acc.length
    · have hki : (k : Int) < (acc.length : Int) := by omega
      obtain ⟨b, o, cap', he, hbl, _, _, hx⟩ := HV.out.1.some (by omega)
      cases he
      obtain ⟨⟨no, ⟨t, c, s⟩, at_⟩, hp⟩ : ∃ p, acc[k]? = some p := ⟨_, List.getElem?_eq_getElem hlt⟩
      have hx' : ∀ m u, m < 5 → (pC (no, (t, c, s), at_))[m]? = some u → wr.cell? ⟨b, o + (k * 5 + m), none⟩ = some u := fun m u hm hu =>
        (HG.out.1.cell (p := ⟨b, _, none⟩) hbl).trans (hx _ _ (by rw [flat_at pC 5 pC_len _ _ _ hm, hp]; exact hu))
      have e0 := hx' 0 _ (by omega) rfl
      have e1 := hx' 1 _ (by omega) rfl
      have e2 := hx' 2 _ (by omega) rfl
      have e3 := hx' 3 _ (by omega) rfl
      have e4 := hx' 4 _ (by omega) rfl
      simp only [Nat.add_zero, ← Nat.add_assoc] at e0 e1 e2 e3 e4
      clear hx hx'
      go_upto_region 6 with fail
      generalize hW1 : World.alloc _ _ = W1
      have z5 : Blk W1 wr.heap.size 38 #[.int .u64 no, .int .i64 t, .int .i64 c, .string s, .int .u64 at_] := by rw [← hW1]; exact (Blk.new _ _ _).alloc _
      have z6 : Blk W1 (wr.heap.size + 1) 80 #[.int .i64 t, .int .i64 c] := by rw [← hW1]; exact (Blk.new _ _ _).same_g (by simp)
      have b1 : Below wr.heap.size wr W1 := by rw [← hW1]; exact ((Below.refl _ _).alloc (Nat.le_refl _) _).alloc (by simp) _
      have s1 : W1.heap.size = wr.heap.size + 2 := by rw [← hW1]; simp
      have d3 := z5.cell 3
      have d0 := z6.cell 0
      have d1 := z6.cell 1
      obtain ⟨n, f, hM, hB, ho, hd⟩ := HG.out.2
      have b2 : Below wr.heap.size wr (W1.alloc (.cells #[.string s] 9)) := b1.alloc (by omega) _
      have hM2 := hM.below b2
      have ho2 := fun t c => (ho t c).below b2
      have hwt := (HV.out.2 _ (List.mem_of_getElem? hp))
      obtain ⟨l, hl⟩ := key_of hwt.1 hwt.2
      have hlen : (ofK ((acc.take k).map (·.2.1)) t c).length < 1000000 := Nat.lt_of_le_of_lt (ofK_len _ _ _) (by simp; omega)
      obtain ⟨G, hGd⟩ : ∃ G, ofK ((acc.take k).map (·.2.1)) = G := ⟨_, rfl⟩
      rw [hGd] at ho2 hlen
      have HH := Lib.hid (And.intro hM2 (And.intro ho2 (And.intro hB (And.intro hd (And.intro b2 (And.intro hlen hGd))))))
      have Hl := Lib.hid hl
      have HW := Lib.hid (And.intro s1 z5)
      obtain ⟨A2, cap2, hv2, hc2⟩ := (ho2 t c).len
      have hoo := ho2 t c
      rw [hv2] at hoo
      have HO := Lib.hid hoo
      clear hoo
      clear hM hB ho hd hM2 ho2 b1 b2 hl hW1 e0 e1 e2 e3 e4 hlen hGd z5 z6 hwt
      go_wp2_with (first
        | (refine wpList_entry_is rfl HH.out.1 key_law (.tmp 19) (.tmp 20) rfl Try.underlying77 (zero_strs _) rfl rfl Hl.out _ hv2 ?_; intro w2 born hb2 hs2 hE2; have HE2 := Lib.hid (And.intro hE2 (And.intro hb2 (one_cell HW.out.1 hb2 (by simp [HW.out.1]) (by omega)))); clear hE2 hb2)
        | (at_builtin; (have p1 : w.heap.size ≤ w2.heap.size := Nat.le_trans (by have := HW.out.1; have e : ∀ o, (W1.alloc o).heap.size = W1.heap.size + 1 := fun _ => (by simp); rw [e]; omega) HE2.out.2.1.size; have p2 : (G t c).length + 1 ≤ maxLen := (by unfold maxLen; have := HH.out.2.2.2.2.2.1; omega); have p3 : ((G t c).length + 1) * 16 ≤ 140737488355328 := (by have := HH.out.2.2.2.2.2.1; omega); have p4 : ∀ u ∈ [Value.string s], u.oneCell' = true := (fun u hu => by simp at hu; subst hu; rfl); refine wpList_append_at rfl (.tmp 21) (.tmp 24) 57 rfl w.heap.size 9 i0 (.string ByteArray.empty) 1 16 Try.underlying57 hi hz0 hz1 hz2 rfl (by decide) _ _ _ rfl (HO.out.but HE2.out.2.1 (fun j hj => ⟨(HO.out.lt j hj).2, fun e => HO.out.ne_map HH.out.1 (e ▸ hj)⟩)) ⟨wr.heap.size + 2, 0, none⟩ 1 [.string s] rfl rfl HE2.out.2.2 p4 p1 p2 p3 ?_; clear p1 p2 p3 p4; intro v' w3 ho3 hg3 hv3; obtain ⟨A3, cap3, rfl, hcap3⟩ := ho3.len; have p5 : w.heap.size < w2.heap.size := (Nat.lt_of_lt_of_le (by have := HW.out.1; have e : ∀ o, (W1.alloc o).heap.size = W1.heap.size + 1 := fun _ => (by simp); rw [e]; omega) HE2.out.2.1.size); have r1 := hg3.block _ p5 (fun e => HO.out.ne_map HH.out.1 e.symm); have r2 := HE2.out.1 (fun k2 => if k2 = kv t c then some (Value.slice A2 (G t c).length cap2) else f k2) (if_pos rfl) (fun k' hk' => if_neg hk'); have r3 := r2.keep r1; have HE3 := Lib.hid (And.intro ho3 (And.intro hg3 (And.intro hv3 r3))); clear r1 r2 r3; clear ho3 hg3 hv3 hcap3 p5))
        | (refine wpList_entryStore_is rfl HE3.out.2.2.2 (.tmp 19) (.tmp 27) (.tmp 26) rfl rfl rfl rfl ?_; intro w4 hb4 hs4 hM4; have HE4 := Lib.hid (And.intro hb4 (And.intro hs4 hM4)); clear hM4 hb4 hs4))
      have hle2 : w.heap.size ≤ (W1.alloc (.cells #[.string s] 9)).heap.size := by have := HW.out.1; simp; omega
      have hle3 : w.heap.size ≤ w2.heap.size := Nat.le_trans hle2 HE2.out.2.1.size
      have hle4 : w.heap.size ≤ w3.heap.size := Nat.le_trans hle3 HE3.out.2.1.size
      have hbel : Below w.heap.size w w4 := (HG.out.1.trans (HH.out.2.2.2.2.1.mono hle)).trans
        ((below_but HE2.out.2.1 (fun j hj => by omega) hle2).trans ((below_grown HE3.out.2.1 (fun j hj => (HO.out.lt j hj).1) hle3).trans (below_but HE4.out.1 (fun j hj => by omega) hle4)))
      have hst : Grp w4 w.heap.size w.heap.size (fun t' c' => G t' c' ++ if t = t' ∧ c = c' then [s] else []) :=
        Grp.step (t := t) (c := c) (s := s) HH.out.1 (Nat.le_refl _) HH.out.2.1 HH.out.2.2.2.1 HE2.out.2.1 (by rw [hv2]; exact HE3.out.2.1) HE3.out.1 (by rw [hv2]; exact HE3.out.2.2.1) HE4.out.1
          (HE4.out.2.2 _ (if_pos rfl) (fun k' hk' => by have hk2 : k' ≠ kv t c := hk'; rw [if_neg hk2, if_neg hk2]))
      have hfin : (fun t' c' => G t' c' ++ if t = t' ∧ c = c' then [s] else []) = ofK ((acc.take (k + 1)).map (·.2.1)) := by
        funext t' c'
        rw [List.take_add_one, hp, Option.toList_some, List.map_append, List.map_singleton, ofK_snoc, HH.out.2.2.2.2.2.2]
      rw [hfin] at hst
      go_roundg (acc.length - (k + 1))
      case measure => omega
      case rel => exact ⟨k + 1, by omega, rfl, by go_num, hbel, hst⟩
    · obtain rfl : k = acc.length := by omega
      go_wp2_with fail
      go_ret
      refine ⟨_, rfl, HG.out.1, ?_⟩
      have := HG.out.2
      rwa [List.take_length] at this

end Go.Proofs.Ytkpfebgmfkaglaa
