/-
  CameraNone: procs that are nil, and procs on a nil view. No condition.
-/
import Derived.Test.YtfbdgodebeggbaaCamLive
namespace Go.Proofs.Ytfbdgodebeggbaa
open Go Go.RowKit
set_option linter.unusedSimpArgs false
set_option linter.unusedVariables false
set_option maxRecDepth 100000 in
theorem CameraNone_any (c m : Int) (w : World) (h0 : 0 ≤ m) : Calls Try.prog 3 #[.int .u64 c, .int .u64 m] w fun e w' => e = .returned (.bool true) ∧ Below w.heap.size w w' := by
  by_cases hm0 : m = 0
  · subst hm0
    go_enter Try.func3, Try.ntmps3
    go_wp2_with fail
    refine (live8_any w).mono ?_
    rintro e wl ⟨rfl, hbl⟩
    go_wp2_with fail
    refine (New_128 wl).mono ?_
    rintro e w1 ⟨bm, rfl, hm, hb⟩
    clear hm
    have hb1 := hbl.trans (hb.mono hbl.size)
    go_wp2_with fail
    refine (View_any w1 bm 0).mono ?_
    rintro e w2 ⟨rfl, hw2⟩
    have hv : VW w2 w1.heap.size bm 0 0 := hw2 ▸ Blk.made w1 _ _
    have hb2 : Below w.heap.size w w2 := hw2 ▸ hb1.alloc hb1.size _
    clear hw2 hb hb1 hbl
    go_wp2_with fail
    refine (Now_nil w2 _).mono ?_
    rintro e w' ⟨rfl, rfl⟩
    go_wp2_with fail
    refine (Take_nil w2 _).mono ?_
    rintro e w' ⟨rfl, rfl⟩
    go_wp2_with fail
    refine (Now_Stamp_nil w2).mono ?_
    rintro e w' ⟨rfl, rfl⟩
    go_wp2_with fail
    refine (Take_Stamp_nil w2).mono ?_
    rintro e w' ⟨rfl, rfl⟩
    go_wp2_with fail
    refine (Take_Errno_nil w2).mono ?_
    rintro e w' ⟨rfl, rfl⟩
    go_wp2_with fail
    refine (Take_Moved_nil w2).mono ?_
    rintro e w' ⟨rfl, rfl⟩
    go_wp2_with fail
    refine (Accesses_any hv).mono ?_
    rintro e w' ⟨rfl, rfl⟩
    go_wp2_with fail
    refine (NewNow_any w2 c).mono ?_
    rintro e w3 ⟨rfl, hw3⟩
    have hn : NowAt w3 w2.heap.size ⟨0, c, 0⟩ := hw3 ▸ Blk.made w2 _ _
    have hb3 : Below w.heap.size w w3 := hw3 ▸ hb2.alloc hb2.size _
    have hs2 := hb2.size
    have hs3 : w2.heap.size < w3.heap.size := Blk.lt hn
    clear hw3
    go_wp2_with fail
    refine (NewTake_any w3 c 0).mono ?_
    rintro e w4 ⟨rfl, hw4⟩
    have ht : TakeAt w4 w3.heap.size ⟨0, c, 0, 0, 0, 0, false⟩ := hw4 ▸ Blk.made w3 _ _
    have hn4 : NowAt w4 w2.heap.size ⟨0, c, 0⟩ := hw4 ▸ Blk.alloc hn _
    have hb4 : Below w.heap.size w w4 := hw4 ▸ hb3.alloc hb3.size _
    clear hw4 hn
    go_wp2_with fail
    refine (Now_on_nil hn4).mono ?_
    rintro e w5 ⟨rfl, hn5, hf5⟩
    have ht5 : TakeAt w5 w3.heap.size ⟨0, c, 0, 0, 0, 0, false⟩ := Blk.fr ht hf5 (by omega)
    have hb5 := hb4.trans (hf5.to_below hb4.size (by intro k hk e; omega))
    clear hn4 hf5 ht
    go_wp2_with fail
    have hT := Take_on_nil0 ht5
    rw [if_neg (Int.lt_irrefl 0)] at hT
    refine hT.mono ?_
    rintro e w6 ⟨rfl, ht6, hf6⟩
    have hn6 : NowAt w6 w2.heap.size ⟨2, c, 0⟩ := Blk.fr hn5 hf6 (by omega)
    have hb6 := hb5.trans (hf6.to_below hb5.size (by intro k hk e; omega))
    clear hT ht5 hf6 hn5
    go_wp2_with fail
    refine (Now_Stamp_any hn6).mono ?_
    rintro e w' ⟨rfl, rfl⟩
    go_wp2_with fail
    refine (Take_Errno_any ht6).mono ?_
    rintro e w' ⟨rfl, rfl⟩
    go_wp2
    go_ret
    exact ⟨rfl, hb6⟩
  · have hp : 0 < m := by omega
    have t1 : (m == 0) = false := by simpa using hm0
    clear hm0
    go_enter Try.func3, Try.ntmps3
    go_wp2_with fail
    refine (live8_any w).mono ?_
    rintro e wl ⟨rfl, hbl⟩
    go_wp2_with fail
    refine (New_128 wl).mono ?_
    rintro e w1 ⟨bm, rfl, hm, hb⟩
    clear hm
    have hb1 := hbl.trans (hb.mono hbl.size)
    go_wp2_with fail
    refine (View_any w1 bm 0).mono ?_
    rintro e w2 ⟨rfl, hw2⟩
    have hv : VW w2 w1.heap.size bm 0 0 := hw2 ▸ Blk.made w1 _ _
    have hb2 : Below w.heap.size w w2 := hw2 ▸ hb1.alloc hb1.size _
    clear hw2 hb hb1 hbl
    go_wp2_with fail
    refine (Now_nil w2 _).mono ?_
    rintro e w' ⟨rfl, rfl⟩
    go_wp2_with fail
    refine (Take_nil w2 _).mono ?_
    rintro e w' ⟨rfl, rfl⟩
    go_wp2_with fail
    refine (Now_Stamp_nil w2).mono ?_
    rintro e w' ⟨rfl, rfl⟩
    go_wp2_with fail
    refine (Take_Stamp_nil w2).mono ?_
    rintro e w' ⟨rfl, rfl⟩
    go_wp2_with fail
    refine (Take_Errno_nil w2).mono ?_
    rintro e w' ⟨rfl, rfl⟩
    go_wp2_with fail
    refine (Take_Moved_nil w2).mono ?_
    rintro e w' ⟨rfl, rfl⟩
    go_wp2_with fail
    refine (Accesses_any hv).mono ?_
    rintro e w' ⟨rfl, rfl⟩
    go_wp2_with fail
    refine (NewNow_any w2 c).mono ?_
    rintro e w3 ⟨rfl, hw3⟩
    have hn : NowAt w3 w2.heap.size ⟨0, c, 0⟩ := hw3 ▸ Blk.made w2 _ _
    have hb3 : Below w.heap.size w w3 := hw3 ▸ hb2.alloc hb2.size _
    have hs2 := hb2.size
    have hs3 : w2.heap.size < w3.heap.size := Blk.lt hn
    clear hw3
    go_wp2_with fail
    refine (NewTake_any w3 c m).mono ?_
    rintro e w4 ⟨rfl, hw4⟩
    have ht : TakeAt w4 w3.heap.size ⟨0, c, m, 0, 0, 0, false⟩ := hw4 ▸ Blk.made w3 _ _
    have hn4 : NowAt w4 w2.heap.size ⟨0, c, 0⟩ := hw4 ▸ Blk.alloc hn _
    have hb4 : Below w.heap.size w w4 := hw4 ▸ hb3.alloc hb3.size _
    clear hw4 hn
    go_wp2_with fail
    refine (Now_on_nil hn4).mono ?_
    rintro e w5 ⟨rfl, hn5, hf5⟩
    have ht5 : TakeAt w5 w3.heap.size ⟨0, c, m, 0, 0, 0, false⟩ := Blk.fr ht hf5 (by omega)
    have hb5 := hb4.trans (hf5.to_below hb4.size (by intro k hk e; omega))
    clear hn4 hf5 ht
    go_wp2_with fail
    have hT := Take_on_nil0 ht5
    rw [if_pos hp, show decide (0 < m) = true from by simpa using hp] at hT
    refine hT.mono ?_
    rintro e w6 ⟨rfl, ht6, hf6⟩
    have hn6 : NowAt w6 w2.heap.size ⟨2, c, 0⟩ := Blk.fr hn5 hf6 (by omega)
    have hb6 := hb5.trans (hf6.to_below hb5.size (by intro k hk e; omega))
    clear hT ht5 hf6 hn5
    go_wp2_with fail
    refine (Take_on_nil1 ht6).mono ?_
    rintro e w7 ⟨rfl, ht7, hf7⟩
    have hn7 : NowAt w7 w2.heap.size ⟨2, c, 0⟩ := Blk.fr hn6 hf7 (by omega)
    have hb7 := hb6.trans (hf7.to_below hb6.size (by intro k hk e; omega))
    clear ht6 hf7 hn6
    go_wp2_with fail
    refine (Now_Stamp_any hn7).mono ?_
    rintro e w' ⟨rfl, rfl⟩
    go_wp2_with fail
    refine (Take_Moved_any ht7).mono ?_
    rintro e w' ⟨rfl, rfl⟩
    go_wp2_with fail
    refine (Take_Stamp_any ht7).mono ?_
    rintro e w' ⟨rfl, rfl⟩
    go_wp2_with fail
    refine (Take_Errno_any ht7).mono ?_
    rintro e w' ⟨rfl, rfl⟩
    go_wp2
    go_ret
    exact ⟨rfl, hb7⟩
end Go.Proofs.Ytfbdgodebeggbaa
