/- Rows that are full; air that is none. -/
import Derived.Test.YtgolelpncdadkaaAirG
set_option linter.unusedSimpArgs false
set_option linter.unusedVariables false
namespace Go.Proofs.Ytgolelpncdadkaa
open Go.RowKit Go.Shelf
attribute [local irreducible] wpMix

theorem put_mask_full (b : Nat) (tv v1 v2 : Value) (n : Nat) (xs : List Value) (x : Int) (w : World) (hB : Blk w b 49 #[tv, v1, v2]) (ho : OwnsAt w 0 3 1 v1 n xs) (hne : v1.ownBlock ≠ some b) (hn : n = 4096) :
    Calls Try.prog 20 #[.pointer (some ⟨b, 1, none⟩), .int .i64 x] w fun e w' => e = .returned (.int .i64 6) ∧ w = w' := by
  obtain ⟨A, cap, rfl, hcap⟩ := ho.len
  have c1 := hB.cell 1
  subst hn
  clear hB hne ho hcap
  go_enter Try.func20, Try.ntmps20
  go_wp2_with fail
  go_ret
  exact ⟨rfl, rfl⟩
theorem put_turn_full (b : Nat) (tv v1 v2 : Value) (n : Nat) (xs : List Value) (x y : Int) (w : World) (hB : Blk w b 49 #[tv, v1, v2]) (ho : OwnsAt w 0 56 2 v2 n xs) (hne : v2.ownBlock ≠ some b) (hn : n = 4096) :
    Calls Try.prog 23 #[.pointer (some ⟨b, 2, none⟩), .agg #[.int .i64 x, .int .i64 y]] w fun e w' => e = .returned (.int .i64 6) ∧ Below w.heap.size w w' := by
  obtain ⟨A, cap, rfl, hcap⟩ := ho.len
  have c1 := hB.cell 2
  have hlb := hB.lt
  subst hn
  clear hB hne ho hcap
  go_enter Try.func23, Try.ntmps23
  go_wp2_with fail
  go_ret
  exact ⟨rfl, (Below.refl _ _).alloc (Nat.le_refl _) _⟩

set_option maxRecDepth 100000 in
set_option maxHeartbeats 1000000 in
theorem Erase_full (F : Nat → Prop) (b n : Nat) (ms : List Int) (ts : List (Int × Int)) (mask : Int) (w : World) (hI : AirInv w F b n ms ts) (hn : 1 ≤ n ∧ n ≤ 8) (h0 : 0 ≤ mask) (hm : mask < 2 ^ n) (hl : ms.length = 4096) :
    Calls Try.prog 10 #[.pointer (some ⟨b, 0, none⟩), .int .i64 mask] w fun e w' => e = .returned (.int .i64 6) ∧ Below w.heap.size w w' := by
  have HI := Lib.hid (And.intro hI (And.intro hn (And.intro h0 (And.intro hm hl))))
  clear hI hn h0 hm hl
  go_enter Try.func10, Try.ntmps10
  go_wp2_with fail
  generalize hW0 : World.alloc _ _ = W0
  have hb0 : Below w.heap.size w W0 := by rw [← hW0]; exact (((Below.refl _ _).alloc (Nat.le_refl _) _).alloc (by simp) _).alloc (by simp; omega) _
  have k2 : Blk W0 w.heap.size 23 #[.pointer (some ⟨b, 0, none⟩)] := by rw [← hW0]; exact ((Blk.new _ _ _).alloc _).alloc _
  have k3 : Blk W0 (w.heap.size + 1) 3 #[.int .i64 mask] := by rw [← hW0]; exact ((Blk.new (w.alloc _) _ _).same_g (by simp)).alloc _
  have k4 : Blk W0 (w.heap.size + 1 + 1) 27 #[.func (.func 18) #[] #[.pointer (some ⟨w.heap.size + 1, 0, none⟩)], .func (.func 19) #[] #[.pointer (some ⟨w.heap.size + 1, 0, none⟩), .pointer (some ⟨w.heap.size, 0, none⟩)]] := by
    rw [← hW0]; exact (Blk.new ((w.alloc _).alloc _) _ _).same_g (by simp)
  clear hW0
  obtain ⟨v1, v2, hB, h1, h2, n1, n2, n3, hF⟩ := HI.out.1.below hb0
  refine (all_two _ _ _ _ _ W0 k4 (erase1 _ mask W0 k3) (erase2 _ _ b n mask v1 v2 W0 HI.out.2.1 k3 k2 hB)).mono ?_
  rintro e w2 ⟨rfl, hb2⟩
  rw [decide_eq_true HI.out.2.2.1, decide_eq_true HI.out.2.2.2.1]
  have hlt := HI.out.1.lt
  have hb02 : Below w.heap.size w w2 := hb0.trans (hb2.mono hb0.size)
  have c2 := (k2.below hb2 k2.lt).cell 0
  have c3 := (k3.below hb2 k3.lt).cell 0
  have l2 := (k2.below hb2 k2.lt).lt
  have l3 := (k3.below hb2 k3.lt).lt
  have nF2 : ¬ F w.heap.size := fun h => by have := hlt _ h; omega
  have nF3 : ¬ F (w.heap.size + 1) := fun h => by have := hlt _ h; omega
  have q2 : ∀ X : Cls fun W => But F w2.heap.size w2 W, X.W.cell? ⟨w.heap.size, 0, none⟩ = some (.pointer (some ⟨b, 0, none⟩)) := fun X => (but_cell X _ _ l2 nF2).trans c2
  have q3 : ∀ X : Cls fun W => But F w2.heap.size w2 W, X.W.cell? ⟨w.heap.size + 1, 0, none⟩ = some (.int .i64 mask) := fun X => (but_cell X _ _ l3 nF3).trans c3
  have HK := Lib.hid (And.intro hb02 (And.intro (hB.below hb2 hB.lt) (And.intro (h1.below hb2) (And.intro (h2.below hb2) (And.intro n1 (And.intro n2 (And.intro n3 hF)))))))
  clear k2 k3 k4 hB h1 h2 n1 n2 n3 hF hlt hb0 hb2 hb02 c2 c3 nF2 nF3
  go_wp2_with fail
  refine wp_region_sub [4] (fun W => But F w2.heap.size w2 W) (by kernel_rfl) (by kernel_rfl) ((But.refl _ _ _).drew) (fun _ => ?_)
  iterate 4 (refine mix_read (by kernel_rfl) (by rfl) (by rfl) (by rfl) (of_decide_eq_true (by kernel_rfl)) ?_; apply Exists.intro; apply Exists.intro; refine ⟨fun w' hw' K hK => ?_, ?_, ?_⟩; (obtain ⟨X, rfl⟩ := hw'; go_wp2_with fail; first | exact ⟨rfl, rfl⟩ | exact rfl); rfl)
  (refine mix_act (by rfl) (by rfl) (fun K hK => ?_))
  go_wp2_with fail
  obtain ⟨hb02, hB, h1, h2, n1, n2, n3, hF⟩ := HK.out
  have hbd : But F w.heap.size w w2.drew := (But.of_below hb02).drew
  have hput := put_mask_full b (.int .i64 n) v1 v2 ms.length (ms.map (Value.int .i64)) mask w2.drew hB.drew (h1.keep (fun _ _ => rfl)) n1 HI.out.2.2.2.2
  refine hput.mono ?_
  rintro e w3 ⟨rfl, rfl⟩
  have hA : Below w.heap.size w w2.drew := hb02.drew
  have hbF : But F w2.heap.size w2 w2.drew := (But.refl F _ _).drew
  have HA := Lib.hid (And.intro hA hbF)
  clear hA hbF hput hbd hb02 hB h1 h2 n1 n2 n3 hF q2 q3
  go_wp2_with fail
  refine ⟨.mk HA.out.2, ?_⟩
  iterate 1 (refine mix_read (by kernel_rfl) (by rfl) (by rfl) (by rfl) (of_decide_eq_true (by kernel_rfl)) ?_; apply Exists.intro; apply Exists.intro; refine ⟨fun w' hw' K hK => ?_, ?_, ?_⟩; (obtain ⟨X, rfl⟩ := hw'; go_wp2_with fail; first | exact ⟨rfl, rfl⟩ | exact rfl); rfl)
  refine mix_nil ?_
  go_wp2_with fail
  go_ret
  exact ⟨rfl, HA.out.1⟩

set_option maxRecDepth 100000 in
set_option maxHeartbeats 1000000 in
theorem Turn_full (F : Nat → Prop) (b n : Nat) (ms : List Int) (ts : List (Int × Int)) (at_ mask : Int) (w : World) (hI : AirInv w F b n ms ts) (h1 : 0 ≤ at_ ∧ at_ ≤ 72) (h2 : 0 < mask ∧ mask < 256) (hl : ts.length = 4096) :
    Calls Try.prog 12 #[.pointer (some ⟨b, 0, none⟩), .int .i64 at_, .int .i64 mask] w fun e w' => e = .returned (.int .i64 6) ∧ Below w.heap.size w w' := by
  have HI := Lib.hid (And.intro hI (And.intro h1 (And.intro h2 hl)))
  clear hI h1 h2 hl
  go_enter Try.func12, Try.ntmps12
  go_wp2_with fail
  generalize hW0 : World.alloc _ _ = W0
  have hb0 : Below w.heap.size w W0 := by rw [← hW0]; exact (((Below.refl _ _).alloc (Nat.le_refl _) _).alloc (by simp) _).alloc (by simp; omega) _
  have k2 : Blk W0 w.heap.size 3 #[.int .i64 at_] := by rw [← hW0]; exact ((Blk.new _ _ _).alloc _).alloc _
  have k3 : Blk W0 (w.heap.size + 1) 3 #[.int .i64 mask] := by rw [← hW0]; exact ((Blk.new (w.alloc _) _ _).same_g (by simp)).alloc _
  have k4 : Blk W0 (w.heap.size + 1 + 1) 27 #[.func (.func 21) #[] #[.pointer (some ⟨w.heap.size, 0, none⟩)], .func (.func 22) #[] #[.pointer (some ⟨w.heap.size + 1, 0, none⟩)]] := by
    rw [← hW0]; exact (Blk.new ((w.alloc _).alloc _) _ _).same_g (by simp)
  clear hW0
  obtain ⟨v1, v2, hB, h1, h2, n1, n2, n3, hF⟩ := HI.out.1.below hb0
  refine (all_two _ _ _ _ _ W0 k4 (turn1 _ at_ W0 k2) (turn2 _ mask W0 k3)).mono ?_
  rintro e w2 ⟨rfl, hb2⟩
  rw [decide_eq_true HI.out.2.1, decide_eq_true HI.out.2.2.1]
  have hlt := HI.out.1.lt
  have hb02 : Below w.heap.size w w2 := hb0.trans (hb2.mono hb0.size)
  have c2 := (k2.below hb2 k2.lt).cell 0
  have c3 := (k3.below hb2 k3.lt).cell 0
  have l2 := (k2.below hb2 k2.lt).lt
  have l3 := (k3.below hb2 k3.lt).lt
  have nF2 : ¬ F w.heap.size := fun h => by have := hlt _ h; omega
  have nF3 : ¬ F (w.heap.size + 1) := fun h => by have := hlt _ h; omega
  have q2 : ∀ X : Cls fun W => But F w2.heap.size w2 W, X.W.cell? ⟨w.heap.size, 0, none⟩ = some (.int .i64 at_) := fun X => (but_cell X _ _ l2 nF2).trans c2
  have q3 : ∀ X : Cls fun W => But F w2.heap.size w2 W, X.W.cell? ⟨w.heap.size + 1, 0, none⟩ = some (.int .i64 mask) := fun X => (but_cell X _ _ l3 nF3).trans c3
  have HK := Lib.hid (And.intro hb02 (And.intro (hB.below hb2 hB.lt) (And.intro (h1.below hb2) (And.intro (h2.below hb2) (And.intro n1 (And.intro n2 (And.intro n3 hF)))))))
  clear k2 k3 k4 hB h1 h2 n1 n2 n3 hF hlt hb0 hb2 hb02 c2 c3 nF2 nF3
  go_wp2_with fail
  refine wp_region_sub [6] (fun W => But F w2.heap.size w2 W) (by kernel_rfl) (by kernel_rfl) ((But.refl _ _ _).drew) (fun _ => ?_)
  iterate 6 (refine mix_read (by kernel_rfl) (by rfl) (by rfl) (by rfl) (of_decide_eq_true (by kernel_rfl)) ?_; apply Exists.intro; apply Exists.intro; refine ⟨fun w' hw' K hK => ?_, ?_, ?_⟩; (obtain ⟨X, rfl⟩ := hw'; go_wp2_with fail; first | exact ⟨rfl, rfl⟩ | exact rfl); rfl)
  (refine mix_act (by rfl) (by rfl) (fun K hK => ?_))
  go_wp2_with fail
  obtain ⟨hb02, hB, h1, h2, n1, n2, n3, hF⟩ := HK.out
  have hbd : But F w.heap.size w w2.drew := (But.of_below hb02).drew
  have hput := put_turn_full b (.int .i64 n) v1 v2 ts.length (flat ts) at_ mask w2.drew hB.drew (h2.keep (fun _ _ => rfl)) n2 HI.out.2.2.2
  refine hput.mono ?_
  rintro e w3 ⟨rfl, hp⟩
  have hA : Below w.heap.size w w3 := hb02.drew.trans (hp.mono hb02.drew.size)
  have hbF : But F w2.heap.size w2 w3 := (But.refl F _ _).drew.trans (.of_below hp)
  have HA := Lib.hid (And.intro hA hbF)
  clear hA hbF hp hput hbd hb02 hB h1 h2 n1 n2 n3 hF q2 q3
  go_wp2_with fail
  refine ⟨.mk HA.out.2, ?_⟩
  iterate 1 (refine mix_read (by kernel_rfl) (by rfl) (by rfl) (by rfl) (of_decide_eq_true (by kernel_rfl)) ?_; apply Exists.intro; apply Exists.intro; refine ⟨fun w' hw' K hK => ?_, ?_, ?_⟩; (obtain ⟨X, rfl⟩ := hw'; go_wp2_with fail; first | exact ⟨rfl, rfl⟩ | exact rfl); rfl)
  refine mix_nil ?_
  go_wp2_with fail
  go_ret
  exact ⟨rfl, HA.out.1⟩

theorem Erase_nil (m : Int) (w : World) : Calls Try.prog 10 #[.pointer none, .int .i64 m] w fun e w' => e = .returned (.int .i64 1) ∧ Below w.heap.size w w' := by
  go_enter Try.func10, Try.ntmps10
  go_wp2_with fail
  go_ret
  refine ⟨rfl, ?_⟩
  first | exact Below.refl _ _ | exact (((Below.refl _ _).alloc (Nat.le_refl _) _).alloc (by simp) _)
theorem Turn_nil (a m : Int) (w : World) : Calls Try.prog 12 #[.pointer none, .int .i64 a, .int .i64 m] w fun e w' => e = .returned (.int .i64 1) ∧ Below w.heap.size w w' := by
  go_enter Try.func12, Try.ntmps12
  go_wp2_with fail
  go_ret
  refine ⟨rfl, ?_⟩
  first | exact Below.refl _ _ | exact (((Below.refl _ _).alloc (Nat.le_refl _) _).alloc (by simp) _)
theorem passes_nil (s : ByteArray) (w : World) :
    Calls Try.prog 16 #[.pointer none, .string s, .string s, .int .i64 0, .bool false] w fun e w' => e = .returned (.bool true) ∧ Below w.heap.size w w' := by
  go_enter Try.func16, Try.ntmps16
  go_wp2_with fail
  refine (Pass_nil s _).mono ?_
  rintro e w1 ⟨rfl, rfl⟩
  go_wp2_with fail
  go_ret
  exact ⟨by simp, Below.refl _ _⟩

section
variable {B : Nat} {w0 w : World} {L : List Thing} {b n : Nat} {ms : List Int} {ts : List (Int × Int)}
theorem sEraseFull (h : Sep B w0 w L) (i : Nat) (hi : L[i]? = some (AirT b n ms ts)) (hn : 1 ≤ n ∧ n ≤ 8) (mask : Int) (h0 : 0 ≤ mask) (hm : mask < 2 ^ n) (hl : ms.length = 4096) :
    Calls Try.prog 10 #[.pointer (some ⟨b, 0, none⟩), .int .i64 mask] w fun e w' => e = .returned (.int .i64 6) ∧ Sep B w0 w' L := by
  obtain ⟨F, hF⟩ := h.look i hi
  exact (Erase_full F b n ms ts mask w hF hn h0 hm hl).mono fun e w' ⟨he, hb⟩ => ⟨he, h.below hb⟩
theorem sTurnFull (h : Sep B w0 w L) (i : Nat) (hi : L[i]? = some (AirT b n ms ts)) (at_ mask : Int) (h1 : 0 ≤ at_ ∧ at_ ≤ 72) (h2 : 0 < mask ∧ mask < 256) (hl : ts.length = 4096) :
    Calls Try.prog 12 #[.pointer (some ⟨b, 0, none⟩), .int .i64 at_, .int .i64 mask] w fun e w' => e = .returned (.int .i64 6) ∧ Sep B w0 w' L := by
  obtain ⟨F, hF⟩ := h.look i hi
  exact (Turn_full F b n ms ts at_ mask w hF h1 h2 hl).mono fun e w' ⟨he, hb⟩ => ⟨he, h.below hb⟩
end

end Go.Proofs.Ytgolelpncdadkaa
