/- Candidates in another order: Pick answers the same. Plain. -/
import Derived.Test.YtnhbcpopnhdhiaaPickP
set_option linter.unusedSimpArgs false
set_option linter.unusedVariables false
namespace Go.Proofs.Ytnhbcpopnhdhiaa
open Go.RowKit Go.Shelf

/-- No two have one number. -/
def Apart1 (l : List Cv) : Prop := ∀ c ∈ l, ∀ d ∈ l, c.1 = d.1 → c = d
def SameIn (a b : List Cv) : Prop := ∀ c, c ∈ a ↔ c ∈ b
theorem some_same {a b : List Cv} (hd : Apart1 a) (hs : SameIn a b) (p : Cv → Bool) : someP p a = someP p b := by
  cases ha : someP p a with
  | none =>
    have h := (someP_none _ _).1 ha
    exact ((someP_none _ _).2 fun x hx hc => h x ((hs x).2 hx) hc).symm
  | some c =>
    obtain ⟨h1, h2, h3, h4⟩ := someP_mem ha
    cases hb : someP p b with
    | none =>
      have := (someP_none _ _).1 hb c ((hs c).1 h1) h2
      rw [h3] at this; cases this
    | some d =>
      obtain ⟨k1, k2, k3, k4⟩ := someP_mem hb
      have e1 := h4 d ((hs d).2 k1) k2 k3
      have e2 := k4 c ((hs c).1 h1) h2 h3
      rw [hd c h1 d ((hs d).2 k1) (by omega)]
theorem modes_same {a b : List Cv} (hs : SameIn a b) : modesOf (wantL a) = [] ↔ modesOf (wantL b) = [] := by
  rw [modesOf_wantL, modesOf_wantL]
  exact ⟨fun h x hx => h x ((hs x).2 hx), fun h x hx => h x ((hs x).1 hx)⟩
theorem wants_iff (l : List Cv) (m : Nat) : wants (wantL l) m = true ↔ ∃ c ∈ l, countsF c = true ∧ c.2.1 = (m : Int) := by
  unfold wants
  rw [List.any_eq_true]
  constructor
  · rintro ⟨md, hmd, he⟩
    have he' : md.1 = m := by simpa using he
    unfold modesOf wantL at hmd
    obtain ⟨z, hz, hzm⟩ := List.mem_filterMap.1 hmd
    obtain ⟨x, hx, rfl⟩ := List.mem_map.1 hz
    obtain ⟨hx, hc⟩ := List.mem_filter.1 hx
    have hb := of_decide_eq_true hc
    rw [dif_pos hb.2] at hzm
    have := congrArg (fun o : Option Md => o.map (·.1)) hzm
    simp at this
    exact ⟨x, hx, hc, by omega⟩
  · rintro ⟨x, hx, hc, he⟩
    have hb := of_decide_eq_true hc
    refine ⟨⟨x.2.1.toNat, by omega, by omega⟩, ?_, by simp; omega⟩
    unfold modesOf wantL
    exact List.mem_filterMap.2 ⟨x.2.1, List.mem_map.2 ⟨x, List.mem_filter.2 ⟨hx, hc⟩, rfl⟩, by rw [dif_pos hb.2]⟩
theorem wants_same {a b : List Cv} (hs : SameIn a b) : wants (wantL a) = wants (wantL b) := by
  funext m
  rw [Bool.eq_iff_iff, wants_iff, wants_iff]
  exact ⟨fun ⟨c, h1, h2⟩ => ⟨c, (hs c).1 h1, h2⟩, fun ⟨c, h1, h2⟩ => ⟨c, (hs c).2 h1, h2⟩⟩
theorem pickS_same {q : Int} {cost weight : Nat → Int} {a b : List Cv} {last p n m : Int} {s s' : St} (hd : Apart1 a) (hs : SameIn a b) (h : PickS q cost weight b last s p n m s') : PickS q cost weight a last s p n m s' := by
  have e1 : voiceOf b = voiceOf a := (some_same hd hs _).symm
  have e2 : oldOf b = oldOf a := (some_same hd hs _).symm
  have e3 : ∀ m, modeOf b m = modeOf a m := fun m => (some_same hd hs _).symm
  have e4 : voiceMay b last = voiceMay a last := by unfold voiceMay; rw [e1, e2]
  unfold PickS at h ⊢
  rw [e1, e2, e4, ← wants_same hs, ← modes_same hs] at h
  simp only [e3, ne_eq, ← modes_same hs] at h
  exact h
theorem pickS_det {q : Int} {cost weight : Nat → Int} {l : List Cv} {last p n m p2 n2 m2 : Int} {s s' s2 : St} (h : PickS q cost weight l last s p n m s') (k : PickS q cost weight l last s p2 n2 m2 s2) : p2 = p ∧ n2 = n ∧ m2 = m ∧ s2 = s' := by
  rcases h with ⟨hv, rfl, ⟨c, hc, rfl, rfl⟩, rfl⟩ | ⟨hv, rfl, ⟨c, hc, rfl, rfl⟩, rfl⟩ | ⟨hv, ho, hz, rfl, hn, c, hc, rfl, rfl⟩ | ⟨hv, ho, hz, rfl, rfl, rfl, rfl⟩
  · exact k.voice hv hc
  · exact k.old hv hc
  · obtain ⟨h1, h2, c', h3, h4, h5⟩ := k.share hv ho hz
    have e := h2.det hn
    have e' : s2 = s' := e
    subst e'
    rw [hc] at h3
    cases h3
    exact ⟨h1, h4, h5, rfl⟩
  · exact k.zero hv ho hz

/-- Each number holds its place. -/
def Marked (l : List Cv) : Prop := ∀ (i : Nat) c, l[i]? = some c → ∃ x : Int, 0 ≤ x ∧ c.1 = 1 + x * 20 + i
theorem Marked.apart {l : List Cv} (h : Marked l) (hl : l.length ≤ 12) : Apart1 l := by
  intro c hc d hd he
  obtain ⟨i, hi⟩ := List.mem_iff_getElem?.1 hc
  obtain ⟨j, hj⟩ := List.mem_iff_getElem?.1 hd
  obtain ⟨x, h1, h2⟩ := h i c hi
  obtain ⟨y, h3, h4⟩ := h j d hj
  have i1 := (List.getElem?_eq_some_iff.1 hi).1
  have j1 := (List.getElem?_eq_some_iff.1 hj).1
  have : i = j := by omega
  subst this
  rw [hi] at hj
  exact Option.some.inj hj
theorem Marked.snoc {l : List Cv} (h : Marked l) {c : Cv} {x : Int} (hx : 0 ≤ x) (hc : c.1 = 1 + x * 20 + l.length) : Marked (l ++ [c]) := by
  intro i d hd
  rcases Nat.lt_trichotomy i l.length with hlt | rfl | hgt
  · rw [List.getElem?_append_left hlt] at hd; exact h i d hd
  · rw [List.getElem?_append_right (Nat.le_refl _), Nat.sub_self] at hd; cases hd; exact ⟨x, hx, hc⟩
  · rw [List.getElem?_eq_none (by simp; omega)] at hd; cases hd
/-- Two that change places. -/
def swapL (l : List Cv) (j k : Nat) : List Cv := match l[j]?, l[k]? with | some x, some y => (l.set j y).set k x | _, _ => l
theorem swapL_len (l : List Cv) (j k : Nat) : (swapL l j k).length = l.length := by unfold swapL; split <;> simp
theorem swapL_in (l : List Cv) (j k : Nat) : SameIn l (swapL l j k) := by
  intro c
  unfold swapL
  split
  · rename_i x y hx hy
    have hjl := (List.getElem?_eq_some_iff.1 hx).1
    have hkl := (List.getElem?_eq_some_iff.1 hy).1
    rw [List.mem_iff_getElem?, List.mem_iff_getElem?]
    have key : ∀ i, ((l.set j y).set k x)[i]? = if i = k then some x else if i = j then some y else l[i]? := by
      intro i
      by_cases h1 : i = k
      · subst h1; rw [if_pos rfl, List.getElem?_set_self (by simpa using hkl)]
      · rw [if_neg h1, List.getElem?_set_ne (by omega)]
        by_cases h2 : i = j
        · subst h2; rw [if_pos rfl, List.getElem?_set_self hjl]
        · rw [if_neg h2, List.getElem?_set_ne (by omega)]
    constructor
    · rintro ⟨i, hi⟩
      by_cases h1 : i = k
      · subst h1
        by_cases h3 : j = i
        · subst h3; exact ⟨j, by rw [key, if_pos rfl, ← hi, hx]⟩
        · exact ⟨j, by rw [key, if_neg h3, if_pos rfl, ← hi, hy]⟩
      · by_cases h2 : i = j
        · subst h2; exact ⟨k, by rw [key, if_pos rfl, ← hi, hx]⟩
        · exact ⟨i, by rw [key, if_neg h1, if_neg h2]; exact hi⟩
    · rintro ⟨i, hi⟩
      rw [key] at hi
      split at hi
      · exact ⟨j, hx.trans hi⟩
      · split at hi
        · exact ⟨k, hy.trans hi⟩
        · exact ⟨i, hi⟩
  · exact Iff.rfl
theorem SameIn.trans {a b c : List Cv} (h : SameIn a b) (k : SameIn b c) : SameIn a c := fun x => (h x).trans (k x)

end Go.Proofs.Ytnhbcpopnhdhiaa
