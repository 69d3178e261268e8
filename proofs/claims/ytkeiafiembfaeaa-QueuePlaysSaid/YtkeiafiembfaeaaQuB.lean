/- A ring of packets: Take. -/
import Derived.Test.YtkeiafiembfaeaaQuA
set_option linter.unusedSimpArgs false
set_option linter.unusedVariables false
namespace Go.Proofs.Ytkeiafiembfaeaa
open Go.RowKit
attribute [local irreducible] wpMix

theorem ringTake_nil (b : Nat) (room : Int) (v : Value) (w : World) (h : RingAt w b room v []) : Calls Try.prog 38 #[.pointer (some ⟨b, 0, none⟩)] w fun e w' => e = .returned (.tuple #[pV noPk, .bool false]) ∧ Below w.heap.size w w' := by
  go_enter Try.func38, Try.ntmps38
  go_wp2_with fail
  have hal : ∀ o, Below w.heap.size w (w.alloc o) := fun o => (Below.refl _ _).alloc (Nat.le_refl _) _
  refine (ringFirst_nil b room v _ ⟨h.1.alloc _, h.2.1.below (hal _), h.2.2⟩).mono ?_
  rintro e w1 ⟨rfl, hb⟩
  have z := (Blk.new w 37 #[.int .u64 0, .int .i64 0, .int .i64 0, .string ByteArray.empty, .int .u64 0]).below hb (by simp)
  have hbw : Below w.heap.size w w1 := (hal _).trans (hb.mono (by simp))
  have z0 := z.cell 0
  have z1 := z.cell 1
  have z2 := z.cell 2
  have z3 := z.cell 3
  have z4 := z.cell 4
  have k0 := z.frozen 0
  have k1 := z.frozen 1
  have k2 := z.frozen 2
  have k3 := z.frozen 3
  have k4 := z.frozen 4
  have hl := z.lt
  have HZ := Lib.hid (And.intro z hbw)
  clear z hbw hb hal h
  go_wp2_with fail
  have zf := ((((((((((HZ.out.1.set_ 0 (.int .u64 noPk.1)).set_ 1 (.int .i64 noPk.2.1.1)).set_ 2 (.int .i64 noPk.2.1.2.1)).set_ 3 (.string noPk.2.1.2.2)).set_ 4 (.int .u64 noPk.2.2)).set_ 0 (.int .u64 noPk.1)).set_ 1 (.int .i64 noPk.2.1.1)).set_ 2 (.int .i64 noPk.2.1.2.1)).set_ 3 (.string noPk.2.1.2.2)).set_ 4 (.int .u64 noPk.2.2))
  have bf := ((((((((((HZ.out.2.setCell (p := ⟨w.heap.size, 0, none⟩) (Nat.le_refl _) (.int .u64 noPk.1)).setCell (p := ⟨w.heap.size, 1, none⟩) (Nat.le_refl _) (.int .i64 noPk.2.1.1)).setCell (p := ⟨w.heap.size, 2, none⟩) (Nat.le_refl _) (.int .i64 noPk.2.1.2.1)).setCell (p := ⟨w.heap.size, 3, none⟩) (Nat.le_refl _) (.string noPk.2.1.2.2)).setCell (p := ⟨w.heap.size, 4, none⟩) (Nat.le_refl _) (.int .u64 noPk.2.2)).setCell (p := ⟨w.heap.size, 0, none⟩) (Nat.le_refl _) (.int .u64 noPk.1)).setCell (p := ⟨w.heap.size, 1, none⟩) (Nat.le_refl _) (.int .i64 noPk.2.1.1)).setCell (p := ⟨w.heap.size, 2, none⟩) (Nat.le_refl _) (.int .i64 noPk.2.1.2.1)).setCell (p := ⟨w.heap.size, 3, none⟩) (Nat.le_refl _) (.string noPk.2.1.2.2)).setCell (p := ⟨w.heap.size, 4, none⟩) (Nat.le_refl _) (.int .u64 noPk.2.2))
  exact bodyPost_ret (res_cell_tmp rfl _ _ w.heap.size 37 _ _ rfl zf Try.underlying37 rfl (by kernel_rfl)) rfl ⟨rfl, bf⟩

/-- clear of a slice of one element. -/
theorem run_clear_one {P : Program} (w : World) (t e ty : TypeId) (z : Value) (ht : P.underlying t = some (.slice e)) (hv : ∀ w, (zeroValue e).run P w = .ok z w) (h1 : ∀ v ∈ z.cells.toList, v.oneCell' = true) (b o c : Nat) (hth : w.there b o z.cells.size) :
    (Builtin.clear_ #[t] ty #[.slice (some ⟨b, o, none⟩) 1 c]).run P w = .ok (.tuple #[]) (w.setCells b o z.cells.toList) := by
  have hzc : (Builtin.zeroCells z.cells 1).toList = z.cells.toList := by
    apply List.ext_getElem?
    intro j
    by_cases hj : j < z.cells.size
    · simp [Builtin.zeroCells, hj, Nat.mod_eq_of_lt hj]
    · simp [Builtin.zeroCells, hj]
  have hst := run_storeCells_cells (P := P) b o z.cells.toList 0 w (fun j hj => (hth j (by simpa using hj)).1) (fun j hj => (hth j (by simpa using hj)).2) h1
  simp only [Nat.add_zero] at hst
  simp [Builtin.clear_, run_underlying ht, hv, hzc, hst]

theorem pk_zero (w : World) : (zeroValue 37).run Try.prog w = .ok (pV noPk) w := by kernel_rfl

theorem wpList_tail {P : Program} {w : World} {ops : Array Oper} {rest : List Oper} {o : Oper} {a : Act} {Q : Exit → Act → World → Prop} {g off n cap size : Nat} (hg : o.guard = none)
    (t e : TypeId) (x lo : Operand) (ho : o.op = Op.slice t x (some lo) none none) (hlo : a.eval lo = .int .i64 1) (hx : a.eval x = .slice (some ⟨g, off, none⟩) (n + 1) (cap + 1)) (hnc : n ≤ cap)
    (ht : P.underlying t = some (.slice e)) (hs : (P.info? e).map (·.size) = some size) (h : wpList P ops Q rest (a.put o.dst (tailV g off n cap size)) w) : wpList P ops Q (o :: rest) a w :=
  wpList_plain hg fun K hK => wp_tail t e x lo ho hlo hx hnc ht hs (hK _ _ h)

theorem own_far2 {w : World} {base size n : Nat} {e : TypeId} {v : Value} {xs : List Value} (h : OwnsAt w base e size v n xs) {p : Addr} (hp : v.ownBlock ≠ some p.block) (u : Value) : OwnsAt (w.setCell p u) base e size v n xs :=
  h.keep fun k hk => Below.heap_setCell _ _ _ _ (by rintro rfl; exact hp hk)
/-- A ring whose first packet has been taken. -/
def RingTook (b : Nat) (room : Int) (v : Value) (l : List Pk) (w w' : World) : Prop :=
  ∃ v', RingAt w' b room v' l ∧ But (fun k => k = b ∨ v.ownBlock = some k) w.heap.size w w' ∧ v'.ownBlock = v.ownBlock
set_option maxRecDepth 100000 in
set_option maxHeartbeats 4000000 in
theorem ringTake (b : Nat) (room : Int) (v : Value) (p : Pk) (l : List Pk) (w : World) (h : RingAt w b room v (p :: l)) : Calls Try.prog 38 #[.pointer (some ⟨b, 0, none⟩)] w fun e w' => e = .returned (.tuple #[pV p, .bool true]) ∧ RingTook b room v l w w' := by
  obtain ⟨n, ⟨t, c, s⟩, at'⟩ := p
  go_enter Try.func38, Try.ntmps38
  go_wp2_with fail
  have hal : ∀ o, Below w.heap.size w (w.alloc o) := fun o => (Below.refl _ _).alloc (Nat.le_refl _) _
  refine (ringFirst b room v _ _ _ ⟨h.1.alloc _, h.2.1.below (hal _), h.2.2⟩).mono ?_
  rintro e w1 ⟨rfl, hb⟩
  have z := (Blk.new w 37 #[.int .u64 0, .int .i64 0, .int .i64 0, .string ByteArray.empty, .int .u64 0]).below hb (by simp)
  have hbw : Below w.heap.size w w1 := (hal _).trans (hb.mono (by simp))
  have z0 := z.cell 0
  have z1 := z.cell 1
  have z2 := z.cell 2
  have z3 := z.cell 3
  have z4 := z.cell 4
  have k0 := z.frozen 0
  have k1 := z.frozen 1
  have k2 := z.frozen 2
  have k3 := z.frozen 3
  have k4 := z.frozen 4
  have hl := z.lt
  have zf := (((((z.set_ 0 (.int .u64 n)).set_ 1 (.int .i64 t)).set_ 2 (.int .i64 c)).set_ 3 (.string s)).set_ 4 (.int .u64 at'))
  have bf := (((((hbw.setCell (p := ⟨w.heap.size, 0, none⟩) (Nat.le_refl _) (.int .u64 n)).setCell (p := ⟨w.heap.size, 1, none⟩) (Nat.le_refl _) (.int .i64 t)).setCell (p := ⟨w.heap.size, 2, none⟩) (Nat.le_refl _) (.int .i64 c)).setCell (p := ⟨w.heap.size, 3, none⟩) (Nat.le_refl _) (.string s)).setCell (p := ⟨w.heap.size, 4, none⟩) (Nat.le_refl _) (.int .u64 at'))
  have HZ := Lib.hid (And.intro zf (And.intro bf h))
  clear z hbw hb hal h zf bf
  go_upto_region 3 with fail
  obtain ⟨zf, bf, h⟩ := HZ.out
  generalize World.setCell _ _ _ = W2 at zf bf ⊢
  have hB2 := h.1.below bf h.1.lt
  have ho2 : OwnsAt W2 0 37 5 v (l.length + 1) (pC (n, (t, c, s), at') ++ l.flatMap pC) := h.2.1.below bf
  obtain ⟨g, off, cap, rfl, _⟩ := ho2.tail
  obtain ⟨_, _, he, hnc⟩ := ho2.len
  cases he
  have hth := ho2.room (i := 0) (by omega)
  have hp3 := ho2.put (i := 0) (by omega) (vs := pC noPk) rfl
  rw [Nat.zero_mul, Nat.add_zero] at hth
  rw [Nat.zero_mul, Nat.add_zero, Nat.zero_add, List.take_zero, List.nil_append, List.drop_append, show (pC (n, (t, c, s), at')).drop 5 = [] from rfl, List.nil_append, show 5 - (pC (n, (t, c, s), at')).length = 0 from rfl, List.drop_zero] at hp3
  have hgr := setCells_grown g (pC noPk) off W2
  have hcl : ∀ ty cc, (Builtin.clear_ #[43] ty #[.slice (some ⟨g, off, none⟩) 1 cc]).run Try.prog W2 = .ok (.tuple #[]) (W2.setCells g off (pC noPk)) := fun ty cc =>
    run_clear_one W2 43 37 ty (pV noPk) Try.underlying43 pk_zero (by intro v hv; simp [pV, Value.cells] at hv; rcases hv with rfl | rfl | rfl | rfl | rfl <;> rfl) g off cc hth
  have c1 := hB2.cell 1
  have hlb := hB2.lt
  have hne : g ≠ b := fun e => h.2.2 (by rw [← e]; rfl)
  have hgl := (ho2.lt g rfl).2
  have HR := Lib.hid (And.intro zf (And.intro bf (And.intro hB2 (And.intro hp3 (And.intro hgr (And.intro h.1.lt (h.2.1.lt g rfl).2))))))
  have hh : w.heap.size < W2.heap.size := zf.lt
  clear zf bf hB2 ho2 hth hp3 hgr h HZ
  go_upto_region 4 with fail
  obtain ⟨zf, bf, hB2, hp3, hgr, hlbw, hgw⟩ := HR.out
  generalize World.setCells _ _ _ _ = W3 at hp3 hgr ⊢
  have hB3 := Blk.same_g ((hgr.block b hlb (by intro e; cases e; exact hne rfl)).trans hB2 : Blk W3 b _ _) rfl
  have z3 : Blk W3 w.heap.size 37 _ := (hgr.block w.heap.size hh (by intro e; cases e; omega)).trans zf
  have bf3 : But (fun k => k = b ∨ Value.ownBlock (.slice (some ⟨g, off, none⟩) (l.length + 1) (cap + 1)) = some k) w.heap.size w W3 := (But.of_below bf).trans ((but_grown hgr _ (fun k hk => .inr (by cases hk; rfl))).mono (Nat.le_of_lt hh) (fun k _ h => h))
  obtain ⟨g', off', cap', he', ht⟩ := hp3.tail
  cases he'
  rw [List.drop_append, show (pC noPk).drop 5 = [] from rfl, List.nil_append, show 5 - (pC noPk).length = 0 from rfl, List.drop_zero] at ht
  have c1 := hB3.cell 1
  have f1 := hB3.frozen 1
  have z0 := z3.cell 0
  have z1 := z3.cell 1
  have z2 := z3.cell 2
  have z3' := z3.cell 3
  have z4 := z3.cell 4
  have k0 := z3.frozen 0
  have k1 := z3.frozen 1
  have k2 := z3.frozen 2
  have k3 := z3.frozen 3
  have k4 := z3.frozen 4
  have hl3 := z3.lt
  have hlb3 := hB3.lt
  obtain ⟨A', hA'⟩ := tailV_slice g off l.length cap 5
  have hown := tailV_own g off l.length cap 5
  rw [hA'] at hown ht
  have HT := Lib.hid (And.intro hB3 (And.intro z3 (And.intro bf3 (And.intro ht hown))))
  have HA := Lib.hid hA'
  have hnc' : l.length ≤ cap := by omega
  clear hB3 z3 bf3 ht hown zf bf hB2 hp3 hgr HR hcl hA'
  go_wp2_with (first
    | (refine wpList_tail (size := 5) rfl 43 37 (.tmp 19) (.const (.int .i64 1)) rfl rfl rfl hnc' Try.underlying43 (by kernel_rfl) ?_; rw [HA.out]))
  obtain ⟨y1, y3, y5, y7, y9⟩ := HT.out
  have hwb : w.heap.size ≠ b := by omega
  have hgw' : g ≠ w.heap.size := by omega
  have hg1 : (Value.slice A' l.length cap).ownBlock ≠ some b := by rw [y9]; intro e; cases e; exact hne rfl
  have hg2 : (Value.slice A' l.length cap).ownBlock ≠ some w.heap.size := by rw [y9]; intro e; cases e; exact hgw' rfl
  replace y1 := y1.set_ 1 (.slice A' l.length cap)
  replace y3 := y3.far (p := ⟨b, 1, none⟩) hwb (.slice A' l.length cap)
  replace y5 := y5.setCell (p := ⟨b, 1, none⟩) (fun _ => .inl rfl) (.slice A' l.length cap)
  replace y7 := own_far2 y7 (p := ⟨b, 1, none⟩) hg1 (.slice A' l.length cap)
  replace y1 := y1.far (p := ⟨w.heap.size, 0, none⟩) (Ne.symm hwb) (.int .u64 n)
  replace y3 := y3.set_ 0 (.int .u64 n)
  replace y5 := y5.setCell (p := ⟨w.heap.size, 0, none⟩) (fun h => absurd h (Nat.lt_irrefl _)) (.int .u64 n)
  replace y7 := own_far2 y7 (p := ⟨w.heap.size, 0, none⟩) hg2 (.int .u64 n)
  replace y1 := y1.far (p := ⟨w.heap.size, 1, none⟩) (Ne.symm hwb) (.int .i64 t)
  replace y3 := y3.set_ 1 (.int .i64 t)
  replace y5 := y5.setCell (p := ⟨w.heap.size, 1, none⟩) (fun h => absurd h (Nat.lt_irrefl _)) (.int .i64 t)
  replace y7 := own_far2 y7 (p := ⟨w.heap.size, 1, none⟩) hg2 (.int .i64 t)
  replace y1 := y1.far (p := ⟨w.heap.size, 2, none⟩) (Ne.symm hwb) (.int .i64 c)
  replace y3 := y3.set_ 2 (.int .i64 c)
  replace y5 := y5.setCell (p := ⟨w.heap.size, 2, none⟩) (fun h => absurd h (Nat.lt_irrefl _)) (.int .i64 c)
  replace y7 := own_far2 y7 (p := ⟨w.heap.size, 2, none⟩) hg2 (.int .i64 c)
  replace y1 := y1.far (p := ⟨w.heap.size, 3, none⟩) (Ne.symm hwb) (.string s)
  replace y3 := y3.set_ 3 (.string s)
  replace y5 := y5.setCell (p := ⟨w.heap.size, 3, none⟩) (fun h => absurd h (Nat.lt_irrefl _)) (.string s)
  replace y7 := own_far2 y7 (p := ⟨w.heap.size, 3, none⟩) hg2 (.string s)
  replace y1 := y1.far (p := ⟨w.heap.size, 4, none⟩) (Ne.symm hwb) (.int .u64 at')
  replace y3 := y3.set_ 4 (.int .u64 at')
  replace y5 := y5.setCell (p := ⟨w.heap.size, 4, none⟩) (fun h => absurd h (Nat.lt_irrefl _)) (.int .u64 at')
  replace y7 := own_far2 y7 (p := ⟨w.heap.size, 4, none⟩) hg2 (.int .u64 at')
  have y3' := y3.same (cs' := #[.int .u64 n, .int .i64 t, .int .i64 c, .string s, .int .u64 at']) (by simp only [List.setIfInBounds_toArray, List.set_cons_succ, List.set_cons_zero])
  clear y3
  refine bodyPost_ret (res_cell_tmp rfl _ _ w.heap.size 37 _ _ rfl y3' Try.underlying37 rfl (by kernel_rfl)) rfl ?_
  exact ⟨rfl, .slice A' l.length cap, ⟨y1, y7, hg1⟩, y5, y9⟩

end Go.Proofs.Ytkeiafiembfaeaa
