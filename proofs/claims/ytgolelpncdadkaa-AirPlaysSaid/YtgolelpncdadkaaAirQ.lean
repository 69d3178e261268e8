/- AirPlays: whatever is to happen, and whichever frames pass: what comes of them is what the document says. -/
import Derived.Test.YtgolelpncdadkaaAirJ
import Derived.Test.YtgolelpncdadkaaAirP
import Derived.Deep.CutRange
import Derived.Deep.CutBlock
set_option linter.unusedSimpArgs false
set_option linter.unusedVariables false
namespace Go.Proofs.Ytgolelpncdadkaa
open Go.RowKit Go.Shelf
attribute [local irreducible] wpMix

theorem Sep.dropLast {B : Nat} {w0 w : World} {L : List Thing} {T : Thing} (h : Sep B w0 w (L ++ [T])) : Sep B w0 w L := by
  obtain ⟨hl, ⟨Fs, h1, h2, h3⟩, h4⟩ := h
  refine ⟨fun U hU => hl U (List.mem_append_left _ hU), ⟨fun i k => i < L.length ∧ Fs i k, fun i U hi => ?_, fun i j k hij hi hj => h2 i j k hij hi.2 hj.2, fun i k hi => ⟨(h3 i k hi.2).1, hi.1⟩⟩, h4⟩
  have hil : i < L.length := (List.getElem?_eq_some_iff.1 hi).1
  have := h1 i U (by rw [List.getElem?_append_left hil]; exact hi)
  have e : (fun k => i < L.length ∧ Fs i k) = Fs i := by funext k; simp [hil]
  show U w (fun k => i < L.length ∧ Fs i k)
  rw [e]; exact this

theorem set_self {α : Type _} {L : List α} {i : Nat} {T : α} (hi : L[i]? = some T) : L.set i T = L := by
  obtain ⟨h, rfl⟩ := List.getElem?_eq_some_iff.1 hi
  exact List.set_getElem_self h

/-- A block of one's own. -/
def BlkT (b : Nat) (t : TypeId) (cs : Array Value) : Thing := fun w F => Blk w b t cs ∧ ∀ k, F k ↔ k = b
theorem BlkT.loc (b : Nat) (t : TypeId) (cs : Array Value) : Local (BlkT b t cs) :=
  ⟨fun _ _ h k hk => by rw [(h.2 k).1 hk]; exact h.1.lt, fun _ _ _ _ h hb hS => ⟨hb.blk h.1.lt (hS b ((h.2 b).2 rfl)) h.1, h.2⟩⟩

def goodMask (n : Nat) (mask : Int) : Bool := decide (0 ≤ mask ∧ mask < 2 ^ n)
def goodTurn (a m : Int) : Bool := decide ((0 ≤ a ∧ a ≤ 72) ∧ (0 < m ∧ m < 256))

section
variable {B : Nat} {w0 w : World} {L : List Thing} {b n : Nat} {ms : List Int} {ts : List (Int × Int)}
theorem sEraseA (h : Sep B w0 w L) (i : Nat) (hi : L[i]? = some (AirT b n ms ts)) (hn : 1 ≤ n ∧ n ≤ 8) (mask : Int) (hl : ms.length < 4096) :
    Calls Try.prog 10 #[.pointer (some ⟨b, 0, none⟩), .int .i64 mask] w fun e w' => e = .returned (.int .i64 (if goodMask n mask then 0 else 2)) ∧ Sep B w0 w' (L.set i (AirT b n (if goodMask n mask then ms ++ [mask] else ms) ts)) := by
  by_cases hg : 0 ≤ mask ∧ mask < 2 ^ n
  · rw [show goodMask n mask = true from decide_eq_true hg]
    exact sErase h i hi hn mask hg.1 hg.2 hl
  · rw [show goodMask n mask = false from decide_eq_false hg]
    refine (sEraseBad h i hi hn mask (by omega)).mono fun e w' ⟨he, hs⟩ => ⟨he, hs.same ?_⟩
    exact (set_self hi).symm
theorem sTurnA (h : Sep B w0 w L) (i : Nat) (hi : L[i]? = some (AirT b n ms ts)) (a m : Int) (hl : ts.length < 4096) :
    Calls Try.prog 12 #[.pointer (some ⟨b, 0, none⟩), .int .i64 a, .int .i64 m] w fun e w' => e = .returned (.int .i64 (if goodTurn a m then 0 else 2)) ∧ Sep B w0 w' (L.set i (AirT b n ms (if goodTurn a m then ts ++ [(a, m)] else ts))) := by
  by_cases hg : (0 ≤ a ∧ a ≤ 72) ∧ (0 < m ∧ m < 256)
  · rw [show goodTurn a m = true from decide_eq_true hg]
    exact sTurn h i hi a m hg.1 hg.2 hl
  · rw [show goodTurn a m = false from decide_eq_false hg]
    refine (sTurnBad h b a m hg).mono fun e w' ⟨he, hs⟩ => ⟨he, hs.same ?_⟩
    exact (set_self hi).symm
theorem rNew (h : Sep B w0 w L) (n : Nat) (hn : 1 ≤ n ∧ n ≤ 8) : Calls Try.prog 8 #[.int .i64 (n : Int)] w fun e w' => e = .returned (.pointer (some ⟨w.heap.size, 0, none⟩)) ∧ Sep B w0 w' (L ++ [RefT w.heap.size n [] []]) :=
  (RefNew_yes n w hn).mono fun e w' ⟨he, hb, hi⟩ => ⟨he, h.new (RefT.loc _ _ _ _) (T' := RefT w.heap.size n [] []) hi (fun k hk => by omega) hb⟩
theorem rEraseA (h : Sep B w0 w L) (i : Nat) (hi : L[i]? = some (RefT b n ms ts)) (hn : 1 ≤ n ∧ n ≤ 8) (mask : Int) (hl : ms.length < 4096) :
    Calls Try.prog 11 #[.pointer (some ⟨b, 0, none⟩), .int .i64 mask] w fun e w' => e = .returned (.int .i64 (if goodMask n mask then 0 else 2)) ∧ Sep B w0 w' (L.set i (RefT b n (if goodMask n mask then ms ++ [mask] else ms) ts)) := by
  by_cases hg : 0 ≤ mask ∧ mask < 2 ^ n
  · rw [show goodMask n mask = true from decide_eq_true hg]
    exact h.call i (R := fun e => e = .returned (.int .i64 0)) hi (RefT.loc _ _ _ _) fun F hF => RefErase_ok F b n ms ts mask w hF hn hg.1 hg.2 hl
  · rw [show goodMask n mask = false from decide_eq_false hg]
    obtain ⟨F, hF⟩ := h.look i hi
    obtain ⟨v1, v2, hB, _⟩ := hF
    refine (RefErase_bad b n v1 v2 mask w hB hn (by omega)).mono ?_
    rintro e w' ⟨he, rfl⟩
    exact ⟨he, h.same (set_self hi).symm⟩
theorem rTurnA (h : Sep B w0 w L) (i : Nat) (hi : L[i]? = some (RefT b n ms ts)) (a m : Int) (hl : ts.length < 4096) :
    Calls Try.prog 13 #[.pointer (some ⟨b, 0, none⟩), .int .i64 a, .int .i64 m] w fun e w' => e = .returned (.int .i64 (if goodTurn a m then 0 else 2)) ∧ Sep B w0 w' (L.set i (RefT b n ms (if goodTurn a m then ts ++ [(a, m)] else ts))) := by
  by_cases hg : (0 ≤ a ∧ a ≤ 72) ∧ (0 < m ∧ m < 256)
  · rw [show goodTurn a m = true from decide_eq_true hg]
    exact h.call i (R := fun e => e = .returned (.int .i64 0)) hi (RefT.loc _ _ _ _) fun F hF => RefTurn_ok F b n ms ts a m w hF hg.1 hg.2 hl
  · rw [show goodTurn a m = false from decide_eq_false hg]
    refine (RefTurn_bad b a m w hg).mono ?_
    rintro e w' ⟨he, rfl⟩
    exact ⟨he, h.same (set_self hi).symm⟩
theorem rPass (h : Sep B w0 w L) (i : Nat) (hi : L[i]? = some (RefT b n ms ts)) (hlm : ms.length ≤ 4096) (hlt : ts.length ≤ 4096) (ht : TurnsOk ts) (s : ByteArray) :
    Calls Try.prog 15 #[.pointer (some ⟨b, 0, none⟩), .string s] w fun e w' =>
      e = .returned (.tuple #[.string (passOut s ts), .int .i64 (ms.headD 0), .bool (!ts.isEmpty)]) ∧ Sep B w0 w' (L.set i (RefT b n ms.tail ts.tail)) :=
  h.call i (R := fun e => e = .returned (.tuple #[.string (passOut s ts), .int .i64 (ms.headD 0), .bool (!ts.isEmpty)])) hi (RefT.loc _ _ _ _) fun F hF =>
    (RefPass_ok hF hlm hlt ht s).mono fun e w' ⟨he, hi', hb⟩ => ⟨he, F, hi', hb.mono (Nat.le_refl _) (fun k _ hk => hk ▸ (by obtain ⟨v1, v2, _, _, _, _, _, _, hFF⟩ := hF; exact (hFF b).2 (.inl rfl))), fun k hk => .inl hk⟩
end

/-- The acts that a slice holds. -/
def ActsAt (w : World) (A : Option Addr) (len : Nat) (f : Nat → Int × Int × Int × ByteArray) : Prop := ∀ i, i < len → ∃ b o, A = some ⟨b, o, none⟩ ∧ b < w.heap.size ∧
  w.cell? ⟨b, o + i * 4, none⟩ = some (.int .i64 (f i).1) ∧ w.cell? ⟨b, o + i * 4 + 1, none⟩ = some (.int .i64 (f i).2.1) ∧ w.cell? ⟨b, o + i * 4 + 2, none⟩ = some (.int .i64 (f i).2.2.1) ∧ w.cell? ⟨b, o + i * 4 + 3, none⟩ = some (.string (f i).2.2.2) ∧ (f i).2.2.2.size ≤ maxLen

set_option maxRecDepth 1000000 in
set_option maxHeartbeats 4000000 in
theorem plays_in (n : Nat) (hn : 1 ≤ n ∧ n ≤ 8) (A : Option Addr) (len cap : Nat) (hl : len ≤ maxLen) (f : Nat → Int × Int × Int × ByteArray) (w : World) (hf : ActsAt w A len f) :
    Calls Try.prog 3 #[.int .i64 n, .slice A len cap] w fun e w' => e = .returned (.bool true) ∧ Below w.heap.size w w' := by
  have HF := Lib.hid (And.intro hf hn)
  clear hf hn
  unfold maxLen at hl
  go_enter Try.func3, Try.ntmps3
  go_wp2_with fail
  refine (sNew (Sep.nil w) n HF.out.2).mono ?_
  rintro e w1 ⟨rfl, h1⟩
  have H1 := Lib.hid h1
  clear h1
  go_wp2_with fail
  refine (rNew H1.out n HF.out.2).mono ?_
  rintro e w2 ⟨rfl, h2⟩
  simp only [List.nil_append, List.cons_append] at h2
  have H2 := Lib.hid h2
  clear h2 H1
  generalize hba : w.heap.size = ba at *
  have HBA := Lib.hid hba
  clear hba
  generalize w1.heap.size = br at *
  go_wp2_with fail
  go_loopg [7] 100 (fun gk p wr => ∃ (k : Nat) (ms : List Int) (ts : List (Int × Int)), k ≤ 100 ∧ k ≤ len ∧ 100 - k = gk ∧ p = .int .i64 k ∧ ms.length ≤ k ∧ ts.length ≤ k ∧ TurnsOk ts ∧ Sep ba w wr [AirT ba n ms ts, RefT br n ms ts])
  case atStart => exact ⟨0, [], [], by omega, by omega, rfl, rfl, by simp, by simp, by intro t ht; simp at ht, H2.out⟩
  case round =>
    obtain ⟨k, ms, ts, hk, hkl, rfl, rfl, hms, hts, hto, hS⟩ := hrel
    have HS := Lib.hid (And.intro hS (And.intro hms (And.intro hts hto)))
    clear hS hms hts hto H2
    by_cases hlt : k < len ∧ k < 100
    · obtain ⟨hl1, hl2⟩ := hlt
      obtain ⟨b, o, rfl, hbl, c0, c1, c2, c3, r3⟩ := HF.out.1 k hl1
      rw [HBA.out] at hbl
      generalize (f k).1 = x0 at *
      generalize (f k).2.1 = x1 at *
      generalize (f k).2.2.1 = x2 at *
      generalize (f k).2.2.2 = x3 at *
      have e0 := (HS.out.1.world.cell (p := ⟨b, o + k * 4, none⟩) hbl).trans c0
      have e1 := (HS.out.1.world.cell (p := ⟨b, o + k * 4 + 1, none⟩) hbl).trans c1
      have e2 := (HS.out.1.world.cell (p := ⟨b, o + k * 4 + 2, none⟩) hbl).trans c2
      have e3 := (HS.out.1.world.cell (p := ⟨b, o + k * 4 + 3, none⟩) hbl).trans c3
      clear c0 c1 c2 c3
      have g1 : decide ((k : Int) < 100) = true := by rw [decide_eq_true_iff]; omega
      have g2 : decide ((k : Int) < (len : Int)) = true := by rw [decide_eq_true_iff]; omega
      go_upto_region 8 with fail
      generalize hW3 : World.alloc _ _ = W3
      have hz : Blk W3 wr.heap.size 29 #[.int .i64 x0, .int .i64 x1, .int .i64 x2, .string x3] := by rw [← hW3]; exact Blk.new _ _ _
      have hS3 : Sep ba w W3 [AirT ba n ms ts, RefT br n ms ts, BlkT wr.heap.size 29 #[.int .i64 x0, .int .i64 x1, .int .i64 x2, .string x3]] := by
        have := HS.out.1.new (BlkT.loc wr.heap.size 29 #[.int .i64 x0, .int .i64 x1, .int .i64 x2, .string x3]) (w' := W3) (F' := fun j => j = wr.heap.size) ⟨hz, fun _ => Iff.rfl⟩ (fun j hj => by omega) (by rw [← hW3]; exact (Below.refl _ _).alloc (Nat.le_refl _) _)
        exact this
      have HS3 := Lib.hid (And.intro hS3 hz)
      have d0 := hz.cell 0
      have d1 := hz.cell 1
      have d2 := hz.cell 2
      have d3 := hz.cell 3
      generalize wr.heap.size = bx at *
      clear hW3 hS3 hz e0 e1 e2 e3
      have q1 : ∀ X : Cls fun W' => Blk W' bx 29 #[.int .i64 x0, .int .i64 x1, .int .i64 x2, .string x3], X.W.cell? ⟨bx, 1, none⟩ = some (.int .i64 x1) := fun X => X.h.cell 1
      have q2 : ∀ X : Cls fun W' => Blk W' bx 29 #[.int .i64 x0, .int .i64 x1, .int .i64 x2, .string x3], X.W.cell? ⟨bx, 2, none⟩ = some (.int .i64 x2) := fun X => X.h.cell 2
      by_cases h0 : x0 = 0
      · subst h0
        obtain ⟨er, her⟩ : ∃ z : Int, (if goodMask n x1 = true then (0 : Int) else 2) = z := ⟨_, rfl⟩
        obtain ⟨ms', hms'⟩ : ∃ z, (if goodMask n x1 = true then ms ++ [x1] else ms) = z := ⟨_, rfl⟩
        have hml : ms'.length ≤ k + 1 := by rw [← hms']; have := HS.out.2.1; split <;> simp <;> omega
        have HE := Lib.hid (And.intro her (And.intro hms' hml))
        clear her hms' hml
        go_upto_region 15 with fail
        refine wp_region_sub [3, 7] (fun W' => Blk W' bx 29 #[.int .i64 0, .int .i64 x1, .int .i64 x2, .string x3]) (by kernel_rfl) (by kernel_rfl) (HS3.out.2.drew) (fun _ => ?_)
        iterate 3 (refine mix_read (by kernel_rfl) (by rfl) (by rfl) (by rfl) (of_decide_eq_true (by kernel_rfl)) ?_; apply Exists.intro; apply Exists.intro; refine ⟨fun w' hw' K hK => ?_, ?_, ?_⟩; (obtain ⟨X, rfl⟩ := hw'; go_wp2_with fail; first | exact ⟨rfl, rfl⟩ | exact rfl); rfl)
        (refine mix_act (by rfl) (by rfl) (fun K hK => ?_))
        go_wp2_with fail
        have p1 := sEraseA (HS3.out.1.below ((Below.refl _ _).drew)) 0 rfl HF.out.2 x1 (by have := HS.out.2.1; omega)
        rw [HE.out.1, HE.out.2.1] at p1
        refine p1.mono ?_
        clear p1
        rintro e w5 ⟨rfl, h5⟩
        obtain ⟨F5, hF5⟩ := h5.look 2 rfl
        have H5 := Lib.hid (And.intro h5 hF5.1)
        clear h5 hF5
        go_wp2_with fail
        refine ⟨.mk H5.out.2, ?_⟩
        iterate 3 (refine mix_read (by kernel_rfl) (by rfl) (by rfl) (by rfl) (of_decide_eq_true (by kernel_rfl)) ?_; apply Exists.intro; apply Exists.intro; refine ⟨fun w' hw' K hK => ?_, ?_, ?_⟩; (obtain ⟨X, rfl⟩ := hw'; go_wp2_with fail; first | exact ⟨rfl, rfl⟩ | exact rfl); rfl)
        (refine mix_act (by rfl) (by rfl) (fun K hK => ?_))
        go_wp2_with fail
        have p1 := rEraseA H5.out.1 1 rfl HF.out.2 x1 (by have := HS.out.2.1; omega)
        rw [HE.out.1, HE.out.2.1] at p1
        refine p1.mono ?_
        clear p1
        rintro e w6 ⟨rfl, h6⟩
        obtain ⟨F6, hF6⟩ := h6.look 2 rfl
        have H6 := Lib.hid (And.intro h6 hF6.1)
        clear h6 hF6
        go_wp2_with fail
        refine ⟨.mk H6.out.2, ?_⟩
        iterate 1 (refine mix_read (by kernel_rfl) (by rfl) (by rfl) (by rfl) (of_decide_eq_true (by kernel_rfl)) ?_; apply Exists.intro; apply Exists.intro; refine ⟨fun w' hw' K hK => ?_, ?_, ?_⟩; (obtain ⟨X, rfl⟩ := hw'; go_wp2_with fail; first | exact ⟨rfl, rfl⟩ | exact rfl); rfl)
        refine mix_nil ?_
        go_wp2_with fail
        go_roundg (100 - (k + 1))
        case measure => omega
        case rel => exact ⟨k + 1, ms', ts, by omega, by omega, rfl, by go_num, HE.out.2.2, by have := HS.out.2.2.1; omega, HS.out.2.2.2, Sep.dropLast (L := [_, _]) H6.out.1⟩
      · by_cases h1 : x0 = 1
        · subst h1
          obtain ⟨er, her⟩ : ∃ z : Int, (if goodTurn x1 x2 = true then (0 : Int) else 2) = z := ⟨_, rfl⟩
          obtain ⟨ts', hts'⟩ : ∃ z, (if goodTurn x1 x2 = true then ts ++ [(x1, x2)] else ts) = z := ⟨_, rfl⟩
          have htl : ts'.length ≤ k + 1 := by rw [← hts']; have := HS.out.2.2.1; split <;> simp <;> omega
          have hto : TurnsOk ts' := by
            have := HS.out.2.2.2
            rw [← hts']
            split
            · rename_i hg
              intro t ht
              rcases List.mem_append.1 ht with ht | ht
              · exact this t ht
              · have hg' := of_decide_eq_true hg
                rw [List.mem_singleton.1 ht]
                simp only
                omega
            · exact this
          have HE := Lib.hid (And.intro her (And.intro hts' (And.intro htl hto)))
          clear her hts' htl hto h0
          go_upto_region 18 with fail
          refine wp_region_sub [5, 11] (fun W' => Blk W' bx 29 #[.int .i64 1, .int .i64 x1, .int .i64 x2, .string x3]) (by kernel_rfl) (by kernel_rfl) (HS3.out.2.drew) (fun _ => ?_)
          iterate 5 (refine mix_read (by kernel_rfl) (by rfl) (by rfl) (by rfl) (of_decide_eq_true (by kernel_rfl)) ?_; apply Exists.intro; apply Exists.intro; refine ⟨fun w' hw' K hK => ?_, ?_, ?_⟩; (obtain ⟨X, rfl⟩ := hw'; go_wp2_with fail; first | exact ⟨rfl, rfl⟩ | exact rfl); rfl)
          (refine mix_act (by rfl) (by rfl) (fun K hK => ?_))
          go_wp2_with fail
          have p1 := sTurnA (HS3.out.1.below ((Below.refl _ _).drew)) 0 rfl x1 x2 (by have := HS.out.2.2.1; omega)
          rw [HE.out.1, HE.out.2.1] at p1
          refine p1.mono ?_
          clear p1
          rintro e w5 ⟨rfl, h5⟩
          obtain ⟨F5, hF5⟩ := h5.look 2 rfl
          have H5 := Lib.hid (And.intro h5 hF5.1)
          clear h5 hF5
          go_wp2_with fail
          refine ⟨.mk H5.out.2, ?_⟩
          iterate 5 (refine mix_read (by kernel_rfl) (by rfl) (by rfl) (by rfl) (of_decide_eq_true (by kernel_rfl)) ?_; apply Exists.intro; apply Exists.intro; refine ⟨fun w' hw' K hK => ?_, ?_, ?_⟩; (obtain ⟨X, rfl⟩ := hw'; go_wp2_with fail; first | exact ⟨rfl, rfl⟩ | exact rfl); rfl)
          (refine mix_act (by rfl) (by rfl) (fun K hK => ?_))
          go_wp2_with fail
          have p1 := rTurnA H5.out.1 1 rfl x1 x2 (by have := HS.out.2.2.1; omega)
          rw [HE.out.1, HE.out.2.1] at p1
          refine p1.mono ?_
          clear p1
          rintro e w6 ⟨rfl, h6⟩
          obtain ⟨F6, hF6⟩ := h6.look 2 rfl
          have H6 := Lib.hid (And.intro h6 hF6.1)
          clear h6 hF6
          go_wp2_with fail
          refine ⟨.mk H6.out.2, ?_⟩
          iterate 1 (refine mix_read (by kernel_rfl) (by rfl) (by rfl) (by rfl) (of_decide_eq_true (by kernel_rfl)) ?_; apply Exists.intro; apply Exists.intro; refine ⟨fun w' hw' K hK => ?_, ?_, ?_⟩; (obtain ⟨X, rfl⟩ := hw'; go_wp2_with fail; first | exact ⟨rfl, rfl⟩ | exact rfl); rfl)
          refine mix_nil ?_
          go_wp2_with fail
          go_roundg (100 - (k + 1))
          case measure => omega
          case rel => exact ⟨k + 1, ms, ts', by omega, by omega, rfl, by go_num, by have := HS.out.2.1; omega, HE.out.2.2.1, HE.out.2.2.2, Sep.dropLast (L := [_, _]) H6.out.1⟩
        · have f0 : (x0 == 0) = false := by simpa using h0
          have f1 : (x0 == 1) = false := by simpa using h1
          clear h0 h1 q1 q2
          unfold maxLen at r3
          have hd : (x3.size : Int) ≤ 200 ∨ (200 : Int) < x3.size := by omega
          go_upto_region 9 with fail
          go_cut [9] from 51 to 57 (fun v wx => (∃ s' : ByteArray, v = .string s') ∧ wx = W3)
          case first =>
            rcases hd with hd | hd
            · go_wp2_with fail
              all_goals (go_meet; exact ⟨⟨_, rfl⟩, rfl⟩)
            · go_wp2_with fail
              all_goals (go_meet; exact ⟨⟨_, rfl⟩, rfl⟩)
          case rest =>
            obtain ⟨⟨s', rfl⟩, rfl⟩ := hcut
            clear hd r3
            have hms := HS.out.2.1
            have hts := HS.out.2.2.1
            have p1 := sPass HS3.out.1 0 rfl (by omega) (by omega) HS.out.2.2.2 s'
            obtain ⟨t, ht⟩ : ∃ t, passOut s' ts = t := ⟨_, rfl⟩
            obtain ⟨bl, hbl⟩ : ∃ bl, (!ts.isEmpty) = bl := ⟨_, rfl⟩
            obtain ⟨x, hx⟩ : ∃ x, ms.headD 0 = x := ⟨_, rfl⟩
            rw [ht, hbl, hx] at p1
            have P1 := Lib.hid p1
            have HX := Lib.hid (And.intro ht (And.intro hbl hx))
            clear p1 ht hbl hx
            go_wp2_with fail
            refine P1.out.mono ?_
            rintro e w5 ⟨rfl, h5⟩
            have p2 := rPass h5 1 rfl (by omega) (by omega) HS.out.2.2.2 s'
            rw [HX.out.1, HX.out.2.1, HX.out.2.2] at p2
            have P2 := Lib.hid p2
            clear p2 h5
            go_wp2_with fail
            refine P2.out.mono ?_
            rintro e w6 ⟨rfl, h6⟩
            have H6 := Lib.hid h6
            clear h6 P2 P1
            go_wp2_with fail
            go_roundg (100 - (k + 1))
            case measure => omega
            case rel => exact ⟨k + 1, ms.tail, ts.tail, by omega, by omega, rfl, by go_num, by simp; omega, by simp; omega, fun t ht => HS.out.2.2.2 t (List.mem_of_mem_tail ht), Sep.dropLast (L := [_, _]) H6.out⟩
    · have hor : (decide ((k : Int) < (len : Int)) = false) ∨ (decide ((k : Int) < (len : Int)) = true ∧ decide ((k : Int) < 100) = false) := by
        by_cases h : k < len
        · right; exact ⟨by rw [decide_eq_true_iff]; omega, by rw [decide_eq_false_iff_not]; omega⟩
        · left; rw [decide_eq_false_iff_not]; omega
      clear hlt
      go_upto_region 5 with fail
      go_cut [42] from 35 to 42 (fun v wx => v = .bool false ∧ wx = wr)
      case first =>
        rcases hor with g | ⟨g, g'⟩
        · go_wp2_with fail
          all_goals (go_meet; first | exact ⟨rfl, rfl⟩ | (exfalso; have := of_decide_eq_false g; omega) | (refine ⟨?_, rfl⟩; have := of_decide_eq_false g; simp; omega))
        · go_wp2_with fail
          all_goals (go_meet; first | exact ⟨rfl, rfl⟩ | (refine ⟨?_, rfl⟩; have := of_decide_eq_false g'; simp; omega))
      case rest =>
        obtain ⟨rfl, rfl⟩ := hcut
        clear hor
        go_wp2_with fail
        refine (works_yes _).mono ?_
        rintro e w7 ⟨rfl, h7⟩
        have H7 := Lib.hid (HS.out.1.below h7).world
        clear h7
        go_wp2_with fail
        go_ret
        exact ⟨rfl, HBA.out ▸ H7.out⟩

theorem plays_out (a : Int) (ha : a < 1 ∨ 8 < a) (A : Option Addr) (len cap : Nat) (w : World) :
    Calls Try.prog 3 #[.int .i64 a, .slice A len cap] w fun e w' => e = .returned (.bool true) ∧ Below w.heap.size w w' := by
  go_enter Try.func3, Try.ntmps3
  go_wp2_with fail
  refine (New_no a w ha).mono ?_
  rintro e w1 ⟨rfl, rfl⟩
  go_wp2_with fail
  refine (RefNew_no a w ha).mono ?_
  rintro e w1 ⟨rfl, rfl⟩
  go_wp2_with fail
  refine (works_yes _).mono ?_
  rintro e w7 ⟨rfl, h7⟩
  go_wp2_with fail
  go_ret
  exact ⟨rfl, h7⟩

theorem tr_i64 {P : Program} {w : World} {t : TypeId} {cs : List Value} (ht : P.underlying t = some (.int .i64)) (h : Tr P w t cs) : ∃ n : Int, cs = [.int .i64 n] := by
  obtain ⟨n, rfl, _⟩ := h.int ht
  exact ⟨n, rfl⟩

theorem came_acts {W : World} {v : Value} (c : Came Try.prog W 22 v) : ∃ A len cap f, v = .slice A len cap ∧ len ≤ maxLen ∧ ActsAt W A len f := by
  obtain ⟨A, len, cap, rfl, ht⟩ := c.slice Try.underlying22
  have he : Try.prog.cellsOf 29 = 4 := by kernel_rfl
  have he1 : Try.prog.cellsOf 3 = 1 := by kernel_rfl
  have he2 : Try.prog.cellsOf 9 = 1 := by kernel_rfl
  obtain ⟨A', len', cap', vs, hcs, hn, hc, _, hvl, hR, hel⟩ := ht.slice Try.underlying22 (by rw [he]; omega)
  cases hcs
  rw [he] at hvl hel
  have hel' : ∀ i, ∃ n : Int × Int × Int × ByteArray, i < len → vs[i * 4]? = some (.int .i64 n.1) ∧ vs[i * 4 + 1]? = some (.int .i64 n.2.1) ∧ vs[i * 4 + 2]? = some (.int .i64 n.2.2.1) ∧ vs[i * 4 + 3]? = some (.string n.2.2.2) ∧ n.2.2.2.size ≤ maxLen := fun i => by
    by_cases hi : i < len
    · obtain ⟨hlen, hf⟩ := (hel i hi).struct Try.underlying29
      have h0 : Tr Try.prog W 3 ((((vs.drop (i * 4)).take 4).drop 0).take (Try.prog.cellsOf 3)) := hf 0 _ rfl
      have h1 : Tr Try.prog W 3 ((((vs.drop (i * 4)).take 4).drop 1).take (Try.prog.cellsOf 3)) := hf 1 _ rfl
      have h2 : Tr Try.prog W 3 ((((vs.drop (i * 4)).take 4).drop 2).take (Try.prog.cellsOf 3)) := hf 2 _ rfl
      have h3 : Tr Try.prog W 9 ((((vs.drop (i * 4)).take 4).drop 3).take (Try.prog.cellsOf 9)) := hf 3 _ rfl
      rw [he1] at h0 h1 h2
      rw [he2] at h3
      obtain ⟨n0, hc0⟩ := tr_i64 Try.underlying3 h0
      obtain ⟨n1, hc1⟩ := tr_i64 Try.underlying3 h1
      obtain ⟨n2, hc2⟩ := tr_i64 Try.underlying3 h2
      obtain ⟨s3, hc3, hs3⟩ := h3.string Try.underlying9
      refine ⟨(n0, n1, n2, s3), fun _ => ⟨?_, ?_, ?_, ?_, hs3⟩⟩
      · have := congrArg (fun l => l[0]?) hc0
        simpa using this
      · have := congrArg (fun l => l[0]?) hc1
        simpa using this
      · have := congrArg (fun l => l[0]?) hc2
        simpa using this
      · have := congrArg (fun l => l[0]?) hc3
        simpa using this
    · exact ⟨(0, 0, 0, ByteArray.empty), fun h => absurd h hi⟩
  refine ⟨A, len, cap, fun i => Classical.choose (hel' i), rfl, Nat.le_trans hn hc, fun i hi => ?_⟩
  have hch := Classical.choose_spec (hel' i) hi
  obtain ⟨b, o, hA, hb, hcell⟩ := hR.at_ (k := i * 4) (by omega)
  have hx : ∀ m, m < 4 → ∀ u, vs[i * 4 + m]? = some u → W.cell? ⟨b, o + (i * 4 + m), none⟩ = some u := fun m hm u hu => by
    obtain ⟨b', o', hA', hb', hcell'⟩ := hR.at_ (k := i * 4 + m) (by omega)
    rw [hA] at hA'
    cases hA'
    rw [hcell', List.getD_eq_getElem?_getD, hu]; rfl
  exact ⟨b, o, hA, hb, hx 0 (by omega) _ hch.1, hx 1 (by omega) _ hch.2.1, hx 2 (by omega) _ hch.2.2.1, hx 3 (by omega) _ hch.2.2.2.1, hch.2.2.2.2⟩

theorem AirPlays_walk (v0 v1 : Value) (W : World) (c0 : Came Try.prog W 3 v0) (c1 : Came Try.prog W 22 v1) :
    Calls Try.prog 3 #[v0, v1] W fun e w' => e = .returned (.bool true) ∧ Below W.heap.size W w' := by
  obtain ⟨a, rfl, _⟩ := c0.int Try.underlying3
  obtain ⟨A, len, cap, f, rfl, hl, hf⟩ := came_acts c1
  by_cases ha : a < 1 ∨ 8 < a
  · exact plays_out a ha A len cap W
  · obtain ⟨n, rfl⟩ : ∃ n : Nat, (n : Int) = a := ⟨a.toNat, Int.toNat_of_nonneg (by omega)⟩
    exact plays_in n (by omega) A len cap hl f W hf

end Go.Proofs.Ytgolelpncdadkaa
