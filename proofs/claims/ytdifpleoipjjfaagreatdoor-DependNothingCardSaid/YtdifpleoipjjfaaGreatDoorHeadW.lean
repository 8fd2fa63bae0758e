/- The walk of the law, and Few: it answers true or false for whatever versions and trade can be read. -/
import Derived.Test.YtdifpleoipjjfaaGreatDoorHeadT
import Derived.Test.YtdifpleoipjjfaaGreatDoorSxFour
namespace Go.Proofs.YtdifpleoipjjfaaGreatDoor
open Go Go.Refl Go.RowKit

/-- The zero world. -/
def zeroWorld : Value := .agg #[.slice none 0 0, .slice none 0 0, .slice none 0 0, .int .i64 0, .int .i64 0, .int .i64 0, .int .i64 0, .slice none 0 0, .slice none 0 0, .slice none 0 0, .slice none 0 0, .slice none 0 0, .string ⟨#[]⟩, .slice none 0 0, .int .i64 0, .int .i64 0, .int .i64 0]

theorem PowIn.below {w w' : World} (h : PowIn w) (hb : Below w.heap.size w w') : PowIn w' := by
  obtain ⟨fr, h⟩ := h
  exact ⟨fr, (hb.block 3 (Array.getElem?_eq_some_iff.1 h).1).trans h⟩

set_option maxHeartbeats 4000000 in
set_option maxRecDepth 100000 in
theorem law_walk (l : Value) (c0 c1 c2 c3 c4 c5 c6 c7 c8 c9 : Value) (s a : Value) (w : World) (hw : PowIn w)
    (few : ∀ w', Below w.heap.size w w' → Calls Tryz.prog 5 #[zeroWorld, l, .agg #[c0, c1, c2, c3, c4, c5, c6, c7, c8, c9]] w' fun e w'' => (∃ b, e = .returned (.bool b)) ∧ Below w'.heap.size w' w'') :
    Calls Tryz.prog 3 #[l, .agg #[c0, c1, c2, c3, c4, c5, c6, c7, c8, c9], s, a] w fun e w' => e = .returned (.bool true) ∧ Below w.heap.size w w' := by
  have mixed := mixedOk
  go_enter Tryz.func3, Tryz.ntmps3
  have hw0 : PowIn (w.alloc (.cells #[c0, c1, c2, c3, c4, c5, c6, c7, c8, c9] 28)) := hw.below ((Below.refl _ w).alloc (Nat.le_refl _) _)
  go_wp2_with (go_at_call 4; refine (head_calls hw0).mono ?_)
  rintro e w1 ⟨rfl, hb1⟩
  have hsz : (w.alloc (.cells #[c0, c1, c2, c3, c4, c5, c6, c7, c8, c9] 28)).heap.size = w.heap.size + 1 := by
    show (w.heap.push _).size = _
    rw [Array.size_push]
  have hblk : w1.heap[w.heap.size]? = some (.cells #[c0, c1, c2, c3, c4, c5, c6, c7, c8, c9] 28 (0, 0)) := by
    rw [hb1.block _ (by rw [hsz]; omega)]
    show (w.heap.push _)[w.heap.size]? = _
    simp
  have hbw1 : Below w.heap.size w w1 := ((Below.refl _ w).alloc (Nat.le_refl _) _).trans (hb1.mono (by rw [hsz]; omega))
  have cell : ∀ w2, Below w1.heap.size w1 w2 → ∀ i v, #[c0, c1, c2, c3, c4, c5, c6, c7, c8, c9][i]? = some v → w2.cell? ⟨w.heap.size, i, none⟩ = some v := by
    intro w2 h2 i v hv
    have hlt : w.heap.size < w1.heap.size := (Array.getElem?_eq_some_iff.1 hblk).1
    rw [h2.cell (p := ⟨w.heap.size, i, none⟩) hlt]
    simp only [World.cell?, hblk]
    simpa using hv
  have k0 := cell w1 (Below.refl _ _) 0 _ rfl
  have k1 := cell w1 (Below.refl _ _) 1 _ rfl
  have k2 := cell w1 (Below.refl _ _) 2 _ rfl
  have k3 := cell w1 (Below.refl _ _) 3 _ rfl
  have k4 := cell w1 (Below.refl _ _) 4 _ rfl
  have k5 := cell w1 (Below.refl _ _) 5 _ rfl
  have k6 := cell w1 (Below.refl _ _) 6 _ rfl
  have k7 := cell w1 (Below.refl _ _) 7 _ rfl
  have k8 := cell w1 (Below.refl _ _) 8 _ rfl
  have k9 := cell w1 (Below.refl _ _) 9 _ rfl
  go_wp2_with (go_at_call 5; refine (few w1 hbw1).mono ?_)
  rintro e w2 ⟨⟨b, rfl⟩, hb2⟩
  have hbw2 : Below w.heap.size w w2 := hbw1.trans (hb2.mono hbw1.size)
  cases b with
  | false =>
    go_wp2
    go_ret
    exact ⟨rfl, hbw2⟩
  | true =>
    clear k0 k1 k2 k3 k4 k5 k6 k7 k8 k9
    have k0 := cell w2 hb2 0 _ rfl
    have k1 := cell w2 hb2 1 _ rfl
    have k2 := cell w2 hb2 2 _ rfl
    have k3 := cell w2 hb2 3 _ rfl
    have k4 := cell w2 hb2 4 _ rfl
    have k5 := cell w2 hb2 5 _ rfl
    have k6 := cell w2 hb2 6 _ rfl
    have k7 := cell w2 hb2 7 _ rfl
    have k8 := cell w2 hb2 8 _ rfl
    have k9 := cell w2 hb2 9 _ rfl
    have hscr := screen_nil l s a #[c0, c1, c2, c3, c4, c5, c6, c7, c8, c9] w2
    unfold zeroScreening at hscr
    go_wp2_with (go_at_call 6; refine hscr.mono ?_)
    clear hscr
    rintro e w3 ⟨rfl, hb3⟩
    have hbw3 : Below w.heap.size w w3 := hbw2.trans (hb3.mono hbw2.size)
    have hp3 : PowIn w3 := hw.below hbw3
    have hp4 : ∀ w4, Below w3.heap.size w3 w4 → PowIn w4 := fun w4 h4 => hp3.below h4
    have hb4 : Below w3.heap.size w3 (w3.alloc (.cells #[.string ⟨#[]⟩, .int .i64 0, .int .i64 0, .slice none 0 0, .slice none 0 0, .int .i64 0, .slice none 0 0, .slice none 0 0, .slice none 0 0] 53)) := (Below.refl _ w3).alloc (Nat.le_refl _) _
    have hsame := same_calls (hp4 _ hb4)
    unfold zeroScreening at hsame
    go_wp2_with (go_at_call 7; refine hsame.mono ?_)
    clear hsame
    rintro e w5 ⟨rfl, hb5⟩
    have hbw5 : Below w.heap.size w w5 := (hbw3.trans (hb4.mono hbw3.size)).trans (hb5.mono (Nat.le_trans hbw3.size hb4.size))
    go_wp2_with (go_at_call 8; refine (work_calls (hw.below hbw5)).mono ?_)
    rintro e w6 ⟨rfl, hb6⟩
    go_wp2
    go_ret
    exact ⟨rfl, hbw5.trans (hb6.mono hbw5.size)⟩
end Go.Proofs.YtdifpleoipjjfaaGreatDoor
/- Few, for whatever versions and trade can be read: it answers true or false, and what was there stays. -/
namespace Go.Proofs.YtdifpleoipjjfaaGreatDoor
open Go Go.Refl Go.RowKit Go.Sx

theorem tyG_closed : tyG.all (fun p => closedOk gE.ty p.2) = true := by kernel_rfl
theorem gE_closed : Closed gE.ty := fun t ti h => List.all_eq_true.1 tyG_closed _ (gE_mem t ti h)
theorem gE46 : gE.ty 46 = some ty46 := by kernel_rfl
theorem gE22 : gE.ty 22 = some ty22 := by kernel_rfl
theorem gE28 : gE.ty 28 = some ty28 := by kernel_rfl
def zeroCells : List Value := [.slice none 0 0, .slice none 0 0, .slice none 0 0, .int .i64 0, .int .i64 0, .int .i64 0, .int .i64 0, .slice none 0 0, .slice none 0 0, .slice none 0 0, .slice none 0 0, .slice none 0 0, .string ⟨#[]⟩, .slice none 0 0, .int .i64 0, .int .i64 0, .int .i64 0]
theorem zero_rd : zeroRd gE.ty 10 46 zeroCells = true := by kernel_rfl

theorem arg_struct {w : World} {t n N : Nat} {ti : TI} {cs : List Value} {v : Value} (ht : gE.ty t = some ti) (hd : ∀ k, ti.d ≠ .int k) (hr : RdN gE.ty w n t cs) (hv : VC gE.ty t cs v) (hn : n < N) : ArgR gE.ty w N t v := by
  refine ⟨ti, ht, ?_⟩
  split
  · rename_i e; exact absurd e (hd _)
  · exact ⟨n, cs, hn, hr, hv⟩

theorem few_calls {H : Type} {enc : TypeId × Value → H} {W w : World} {l : Value} {ct : Array Value} {dl dt : DataW H} {pl pt : List MemPlace} (hs : ∃ a len cap, l = .slice a len cap)
    (hl : DataW.Trod enc Tryz.prog W 0 (fun _ => true) true 22 l dl pl) (ht : DataW.Trod enc Tryz.prog W 0 (fun _ => true) true 28 (.agg ct) dt pt) (hb : Below W.heap.size W w) :
    Calls Tryz.prog 5 #[zeroWorld, l, .agg ct] w fun e w' => (∃ b, e = .returned (.bool b)) ∧ Below w.heap.size w w' := by
  obtain ⟨a, len, cap, rfl⟩ := hs
  obtain ⟨n1, h1⟩ := hl
  obtain ⟨n2, h2⟩ := ht
  have r1 : RdN gE.ty w n1 22 [.slice a len cap] := (rd_of_trod gE_ok gE_closed (t := 22) (ti := ty22) h1 gE22).below hb
  have r2 : RdN gE.ty w n2 28 ct.toList := (rd_of_trod gE_ok gE_closed (t := 28) (ti := ty28) h2 gE28).below hb
  have r0 : RdN gE.ty w 10 46 zeroCells := zeroRd_sound zero_rd
  have a0 : ArgR gE.ty w (10 + n1 + n2 + 1) 46 zeroWorld := arg_struct gE46 (by intro k h; cases h) r0 ⟨ty46, gE46, rfl⟩ (by omega)
  have a1 : ArgR gE.ty w (10 + n1 + n2 + 1) 22 (.slice a len cap) := arg_struct gE22 (by intro k h; cases h) r1 ⟨ty22, gE22, rfl⟩ (by omega)
  have a2 : ArgR gE.ty w (10 + n1 + n2 + 1) 28 (.agg ct) := arg_struct gE28 (by intro k h; cases h) r2 ⟨ty28, gE28, by simp [ty28, Go.Refl.isAgg]⟩ (by omega)
  refine (g5 (10 + n1 + n2 + 1) w [zeroWorld, .slice a len cap, .agg ct] ⟨a0, a1, a2, trivial⟩).2.mono fun e w' h => ?_
  obtain ⟨⟨v, rfl, b, rfl⟩, hbl⟩ := h
  exact ⟨⟨b, rfl⟩, hbl⟩
end Go.Proofs.YtdifpleoipjjfaaGreatDoor
