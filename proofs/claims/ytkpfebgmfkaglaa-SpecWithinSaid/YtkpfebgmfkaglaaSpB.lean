/- The two ways to go on: the very next, or a later one. -/
import Derived.Test.YtkpfebgmfkaglaaSpA
set_option linter.unusedSimpArgs false
set_option linter.unusedVariables false
namespace Go.Proofs.Ytkpfebgmfkaglaa
open Go.RowKit
open Go.Maps (Keyed)

def stepP (l : List ByteArray) (s : ByteArray) : Option (List ByteArray) :=
  match l with
  | [] => none
  | x :: r => if x = s then some r else none
def stepW : List ByteArray → ByteArray → Option (List ByteArray)
  | [], _ => none
  | x :: r, s => if x = s then some r else stepW r s

/-- What a way to go on answers. -/
def NextOk (fid : FuncId) (step : List ByteArray → ByteArray → Option (List ByteArray)) : Prop :=
  ∀ (w : World) (base : Nat) (v : Value) (xs : List ByteArray) (s : ByteArray), OwnsAt w base 9 1 v xs.length (strs xs) →
    Calls Try.prog fid #[v, .string s] w fun e w' => w = w' ∧ ∃ v', e = .returned (.tuple #[v', .bool (step xs s).isSome]) ∧ OwnsAt w base 9 1 v' ((step xs s).getD []).length (strs ((step xs s).getD []))

theorem str_size : (Try.prog.info? 9).map (·.size) = some 1 := by kernel_rfl

theorem prefix1_ok : NextOk 18 stepP := by
  intro w base v xs s h
  cases xs with
  | nil =>
    obtain ⟨A, cap, rfl, hc⟩ := h.len
    have H := Lib.hid h
    clear h
    simp only [List.length_nil]
    go_enter Try.func18, Try.ntmps18
    go_wp2_with fail
    go_ret2
    exact ⟨rfl, nilS, rfl, OwnsAt.nil _ _ _ _⟩
  | cons x r =>
    obtain ⟨A, cap, rfl, hc⟩ := h.len
    obtain ⟨b, o, cap', he, hbl, _, _, hx⟩ := h.sl.some (by simp)
    cases he
    have c0 := hx 0 _ rfl
    rw [Nat.add_zero] at c0
    have hl0 : ((((x :: r).length : Nat) : Int) == 0) = false := by simp; omega
    have H := Lib.hid h
    clear h hx
    by_cases hq : x = s
    · have hd := str_beq_true hq
      have hlc : (1 : Nat) ≤ (x :: r).length := by simp
      have hD := OwnsAt.drop H.out 1 hlc
      obtain ⟨A', hA'⟩ := sliced_slice (some ⟨b, o, none⟩) 1 (x :: r).length cap 1
      rw [hA'] at hD
      have HS := Lib.hid (And.intro hD hq)
      generalize hln : (x :: r).length = ln at *
      clear hq hD H
      go_enter Try.func18, Try.ntmps18
      go_wp2_with (first | (refine wpList_drop rfl 57 9 (.tmp 16) (.const (.int .i64 1)) rfl 1 rfl rfl hlc Try.underlying57 str_size ?_; rw [hA']))
      go_ret2
      refine ⟨rfl, _, by rw [stepP, if_pos HS.out.2]; rfl, ?_⟩
      have e : r.length = ln - 1 := by rw [← hln]; simp
      rw [stepP, if_pos HS.out.2]
      show OwnsAt w base 9 1 (.slice A' (ln - 1) (cap - 1)) r.length (strs r)
      rw [e]
      exact HS.out.1
    · have hd := str_beq_false hq
      have HS := Lib.hid hq
      have hlp : 0 < (x :: r).length := by simp
      generalize hln : (x :: r).length = ln at *
      clear hq
      go_enter Try.func18, Try.ntmps18
      go_wp2_with fail
      go_ret2
      refine ⟨rfl, nilS, by rw [stepP, if_neg HS.out]; rfl, ?_⟩
      rw [stepP, if_neg HS.out]
      exact OwnsAt.nil _ _ _ _

theorem within1_ok : NextOk 20 stepW := by
  intro w base v xs s h
  obtain ⟨A, cap, rfl, hc⟩ := h.len
  have H := Lib.hid h
  clear h
  go_enter Try.func20, Try.ntmps20
  go_wp2_with fail
  go_loopg [10] xs.length (fun gk p wr => ∃ k, k ≤ xs.length ∧ xs.length - k = gk ∧ p = .int .i64 (k : Nat) ∧ stepW xs s = stepW (xs.drop k) s ∧ wr = w)
  case atStart => exact ⟨0, by omega, rfl, rfl, rfl, rfl⟩
  case round =>
    obtain ⟨k, hk, rfl, rfl, he, rfl⟩ := hrel
    have HE := Lib.hid he
    clear he
    by_cases hlt : k < xs.length
    · obtain ⟨b, o, cap', he, hbl, _, _, hx⟩ := H.out.sl.some (by omega)
      cases he
      obtain ⟨x, hp⟩ : ∃ x, xs[k]? = some x := ⟨_, List.getElem?_eq_getElem hlt⟩
      have c0 := hx k (.string x) (by simp [strs, hp])
      have hd : xs.drop k = x :: xs.drop (k + 1) := by rw [List.drop_eq_getElem_cons hlt]; congr 1; rw [List.getElem?_eq_getElem hlt] at hp; exact Option.some.inj hp
      have hki : decide ((k : Int) < (xs.length : Int)) = true := by rw [decide_eq_true_iff]; omega
      have HD := Lib.hid (And.intro hd hp)
      clear hx hd hp
      have hmx := H.out.sl.len
      obtain ⟨_, _, _, _, hm2⟩ := hmx
      unfold maxLen at hm2
      by_cases hq : x = s
      · have hb := str_beq_true hq
        have hlc : k + 1 ≤ xs.length := by omega
        have hD := OwnsAt.drop H.out (k + 1) hlc
        obtain ⟨A', hA'⟩ := sliced_slice (some ⟨b, o, none⟩) (k + 1) xs.length cap 1
        rw [hA'] at hD
        have HS := Lib.hid (And.intro hD hq)
        have hk1 : ((k : Int) + 1) = ((k + 1 : Nat) : Int) := by omega
        have HK := Lib.hid hk1
        clear hq hD hk1
        go_wp2_with (first | (refine wpList_drop rfl 57 9 (.tmp 18) (.tmp 20) rfl (k + 1) (by first | rfl | exact congrArg (Value.int .i64) HK.out) rfl hlc Try.underlying57 str_size ?_; rw [hA']))
        go_ret2
        refine ⟨rfl, .slice A' (xs.length - (k + 1)) (cap - (k + 1)), by rw [HE.out, HD.out.1, stepW, if_pos HS.out.2]; rfl, ?_⟩
        rw [HE.out, HD.out.1, stepW, if_pos HS.out.2]
        have e : ((some (xs.drop (k + 1))).getD []).length = xs.length - (k + 1) := by simp
        rw [e]
        have := HS.out.1
        rw [Nat.mul_one, strs, ← List.map_drop] at this
        exact this
      · have hb := str_beq_false hq
        have HS := Lib.hid hq
        clear hq
        go_wp2_with fail
        go_roundg (xs.length - (k + 1))
        case measure => omega
        case rel => exact ⟨k + 1, by omega, rfl, by go_num, by rw [HE.out, HD.out.1, stepW, if_neg HS.out], rfl⟩
    · obtain rfl : k = xs.length := by omega
      go_wp2_with fail
      go_ret2
      refine ⟨rfl, nilS, by rw [HE.out, List.drop_length]; rfl, ?_⟩
      rw [HE.out, List.drop_length]
      exact OwnsAt.nil _ _ _ _

end Go.Proofs.Ytkpfebgmfkaglaa
