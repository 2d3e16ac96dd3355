/- The walk of steamerlaw11.told: it returns true. -/
import Derived.Test.YthoipfdapmjcfaaMatchAll
import Derived.Test.YthoipfdapmjcfaaMatchJoin
import Derived.Lib.SlBytesConst
namespace Go.Proofs.Ythoipfdapmjcfaa
open Go.RowKit
set_option linter.unusedVariables false
theorem blk_bytes (w : World) (t : TypeId) (fr : Nat × Nat) (l : List UInt8) (cs : Array Value) (hcs : cs = (l.map u8v).toArray) (n : Nat) (hn : l.length = n) : Bytes (w.alloc (.cells cs t fr)) (w.heap.size + 1) (some ⟨w.heap.size, 0, none⟩) n l := by
  refine ⟨hn, fun _ => ⟨w.heap.size, 0, rfl, Nat.lt_succ_self _, fun i c hi => ?_⟩⟩
  rw [Nat.zero_add, World.cell?_alloc_mark, hcs]
  simp [hi]
theorem Toks.of_blk {w : World} {g B : Nat} {e : TypeId} {t : PM.Tok} (h : Blk w g e (tokCells t)) (hg : g < B) : Toks w B (some ⟨g, 0, none⟩) 1 [t] := by
  refine ⟨rfl, fun _ => ⟨g, 0, rfl, hg, fun i u hu => ?_⟩⟩
  rw [Nat.zero_add, h.cell i]
  match i, hu with
  | 0, hu => exact hu
  | 1, hu => exact hu
  | 2, hu => exact hu
theorem OwnT.form_at {w : World} {e : TypeId} {base : Nat} {v : Value} {l : List PM.Tok} (h : OwnT e w base v l) (n : Nat) (hn : l.length = n) (hl : 0 < n) : ∃ g c, v = .slice (some ⟨g, 0, none⟩) n c ∧ Toks w w.heap.size (some ⟨g, 0, none⟩) n l ∧ base ≤ g ∧ g < w.heap.size := by
  subst hn
  rcases h.2 with ⟨rfl, h0⟩ | ⟨g, cap, cur, rfl, hg, hh, hc, _⟩
  · omega
  · refine ⟨g, cap, rfl, ⟨rfl, fun hn => ⟨g, 0, rfl, (Array.getElem?_eq_some_iff.1 hh).1, fun i u hi => ?_⟩⟩, hg, (Array.getElem?_eq_some_iff.1 hh).1⟩
    have := World.ownsRow.cells h (g := g) rfl i u hi
    rw [Addr.add_mid] at this
    exact this
theorem conv_const (w : World) (C : Array Value) (n c : Nat) : (convert 23 23 (.slice (some ⟨w.heap.size, 0, none⟩) n c)).run Try.prog (w.alloc (.cells C 5)) = .ok (.slice (some ⟨w.heap.size, 0, none⟩) n c) (w.alloc (.cells C 5 (C.size, C.size + 1))) := Lib.run_convert_bytes_const w 23 5 C n c Try.underlying23 Try.underlying5
namespace T11
def A4 : List UInt8 := [97, 97, 97, 97]
def A8 : List UInt8 := [97, 98, 99, 97, 98, 99, 97, 98]
def TT : List PM.Tok := [(97, 0, 0), (-1, 1, 3)]
theorem toks_a4 : PM.toks A4 = TT := by decide +kernel
theorem j1 : PM.join TT ((4 : Nat) : Int) [] = (A4, 0) := by decide +kernel
theorem j2 : PM.join TT ((3 : Nat) : Int) [] = ([], 13) := by decide +kernel
theorem j3 : PM.join [(-1, 1, 3)] ((9 : Nat) : Int) [] = ([], 2) := by decide +kernel
theorem j4 : PM.join [(256, 0, 0)] ((9 : Nat) : Int) [] = ([], 1) := by decide +kernel
theorem b8 : PM.best A8 3 = (3, 5) := by decide +kernel
end T11
set_option maxRecDepth 100000 in
set_option maxHeartbeats 4000000 in
theorem told11 (w : World) : Calls Try.prog 8 #[] w fun e w' => e = .returned (.bool true) ∧ Below w.heap.size w w' := by
  have HB0 := Lib.hid (blk_bytes w 5 (4, 5) T11.A4 #[.int .u8 97, .int .u8 97, .int .u8 97, .int .u8 97] rfl 4 rfl)
  have hW0 : Below w.heap.size w (w.alloc (Obj.cells #[.int .u8 97, .int .u8 97, .int .u8 97, .int .u8 97] 5 (4, 5))) := (Below.refl _ _).alloc (Nat.le_refl _) _
  have hcs : (convert 23 23 (.slice (some ⟨w.heap.size, 0, none⟩) 4 4)).run Try.prog (w.alloc (.cells #[.int .u8 97, .int .u8 97, .int .u8 97, .int .u8 97] 5)) = .ok (.slice (some ⟨w.heap.size, 0, none⟩) 4 4) (w.alloc (.cells #[.int .u8 97, .int .u8 97, .int .u8 97, .int .u8 97] 5 (4, 5))) := conv_const w _ 4 4
  go_enter Try.func8, Try.ntmps8
  go_wp2_with fail
  have hz0 : w.heap.size + 1 ≤ (w.alloc (Obj.cells #[.int .u8 97, .int .u8 97, .int .u8 97, .int .u8 97] 5 (4, 5))).heap.size := by rw [World.size_alloc]; omega
  clear hcs
  generalize w.alloc (Obj.cells #[.int .u8 97, .int .u8 97, .int .u8 97, .int .u8 97] 5 (4, 5)) = w0 at *
  (with_reducible refine (all_any (some ⟨w.heap.size, 0, none⟩) 4 4 (w.heap.size + 1) T11.A4 w0 HB0.out hz0 (by omega)).mono ?_)
  rintro e w1 ⟨v, rfl, hO, hb1⟩
  rw [T11.toks_a4] at hO
  obtain ⟨g, c, rfl, hT, hg1, hg2⟩ := hO.form_at 2 rfl (by omega)
  have HT := Lib.hid hT
  have hW1 := hW0.trans (hb1.mono (by omega))
  clear hO hT hb1 HB0 hW0 hz0
  go_wp2_with fail
  have hJ := join_any (some ⟨g, 0, none⟩) 2 c w1.heap.size T11.TT 4 4 w1 HT.out (Nat.le_refl _) (by omega) (by decide) (by omega)
  rw [T11.j1] at hJ
  refine hJ.mono ?_
  clear hJ
  rintro e w2 ⟨v2, rfl, hO2, hb2⟩
  obtain ⟨A2, n2, c2, rfl, hB2, _, _⟩ := hO2.form_n
  have hn2 := hB2.len
  obtain rfl : n2 = 4 := hn2.symm
  have HB2 := Lib.hid hB2
  have HT2 := Lib.hid (HT.out.below hb2)
  have hs2 := hb2.size
  have hW2 := hW1.trans (hb2.mono hW1.size)
  clear hO2 hB2 hn2 HT hW1 hb2
  go_wp2_with fail
  have hJ := join_any (some ⟨g, 0, none⟩) 2 c w1.heap.size T11.TT 3 3 w2 HT2.out hs2 (by omega) (by decide) (by omega)
  rw [T11.j2] at hJ
  refine hJ.mono ?_
  clear hJ
  rintro e w3 ⟨v3, rfl, _, hb3⟩
  have HT3 := Lib.hid (HT2.out.below (hb3.mono hs2))
  have HB3 := Lib.hid (HB2.out.below hb3)
  have hs3 := hb3.size
  have hW3 := hW2.trans (hb3.mono hW2.size)
  clear HT2 HB2 hW2 hb3
  go_wp2_with fail
  have hX := Toks.of_blk (Blk.new w3 34 (tokCells (-1, 1, 3))) (B := w3.heap.size + 1) (by omega)
  have hJ := join_any (some ⟨w3.heap.size, 0, none⟩) 1 1 (w3.heap.size + 1) [(-1, 1, 3)] 9 9 _ hX (by rw [World.size_alloc]; omega) (by omega) (by decide) (by omega)
  rw [T11.j3] at hJ
  refine hJ.mono ?_
  clear hJ hX
  rintro e w4 ⟨v4, rfl, _, hb4⟩
  have hb34 : Below w3.heap.size w3 w4 := ((Below.refl _ _).alloc (Nat.le_refl _) _).trans (hb4.mono (by rw [World.size_alloc]; omega))
  have HT4 := Lib.hid (HT3.out.below (hb34.mono (by omega)))
  have HB4 := Lib.hid (HB3.out.below (hb34.mono hs3))
  have hs4 := hb34.size
  have hW4 := hW3.trans (hb34.mono hW3.size)
  clear HT3 HB3 hW3 hb4 hb34
  go_wp2_with fail
  have hX := Toks.of_blk (Blk.new w4 34 (tokCells (256, 0, 0))) (B := w4.heap.size + 1) (by omega)
  have hJ := join_any (some ⟨w4.heap.size, 0, none⟩) 1 1 (w4.heap.size + 1) [(256, 0, 0)] 9 9 _ hX (by rw [World.size_alloc]; omega) (by omega) (by decide) (by omega)
  rw [T11.j4] at hJ
  refine hJ.mono ?_
  clear hJ hX
  rintro e w5 ⟨v5, rfl, _, hb5⟩
  have hb45 : Below w4.heap.size w4 w5 := ((Below.refl _ _).alloc (Nat.le_refl _) _).trans (hb5.mono (by rw [World.size_alloc]; omega))
  have HT5 := Lib.hid (HT4.out.below (hb45.mono (by omega)))
  have HB5 := Lib.hid (HB4.out.below (hb45.mono (by omega)))
  have hs5 := hb45.size
  have hW5 := hW4.trans (hb45.mono hW4.size)
  clear HT4 HB4 hW4 hb5 hb45
  have hcs : (convert 23 23 (.slice (some ⟨w5.heap.size, 0, none⟩) 8 8)).run Try.prog (w5.alloc (.cells #[.int .u8 97, .int .u8 98, .int .u8 99, .int .u8 97, .int .u8 98, .int .u8 99, .int .u8 97, .int .u8 98] 5)) = .ok (.slice (some ⟨w5.heap.size, 0, none⟩) 8 8) (w5.alloc (.cells #[.int .u8 97, .int .u8 98, .int .u8 99, .int .u8 97, .int .u8 98, .int .u8 99, .int .u8 97, .int .u8 98] 5 (8, 9))) := conv_const w5 _ 8 8
  go_wp2_with fail
  clear hcs
  have hX := blk_bytes w5 5 (8, 9) T11.A8 #[.int .u8 97, .int .u8 98, .int .u8 99, .int .u8 97, .int .u8 98, .int .u8 99, .int .u8 97, .int .u8 98] rfl 8 rfl
  have hJ := best_any (some ⟨w5.heap.size, 0, none⟩) 8 8 (w5.heap.size + 1) T11.A8 3 _ hX (by rw [World.size_alloc]; omega) (by omega) (by omega)
  rw [T11.b8] at hJ
  refine hJ.mono ?_
  clear hJ hX
  rintro e w6 ⟨rfl, hb6⟩
  have hb56 : Below w5.heap.size w5 w6 := ((Below.refl _ _).alloc (Nat.le_refl _) _).trans (hb6.mono (by rw [World.size_alloc]; omega))
  have HT6 := Lib.hid (HT5.out.below (hb56.mono (by omega)))
  have HB6 := Lib.hid (HB5.out.below (hb56.mono (by omega)))
  have hs6 := hb56.size
  have hW6 := hW5.trans (hb56.mono hW5.size)
  clear HT5 HB5 hW5 hb6 hb56
  have hcs : (convert 23 23 (.slice (some ⟨w6.heap.size, 0, none⟩) 2 2)).run Try.prog (w6.alloc (.cells #[.int .u8 97, .int .u8 98] 5)) = .ok (.slice (some ⟨w6.heap.size, 0, none⟩) 2 2) (w6.alloc (.cells #[.int .u8 97, .int .u8 98] 5 (2, 3))) := conv_const w6 _ 2 2
  go_wp2_with fail
  clear hcs
  refine (best_out (some ⟨w6.heap.size, 0, none⟩) 2 2 5 _ (.inr (by decide))).mono ?_
  rintro e w7 ⟨rfl, hb7⟩
  have hb67 : Below w6.heap.size w6 w7 := ((Below.refl _ _).alloc (Nat.le_refl _) _).trans (hb7.mono (by rw [World.size_alloc]; omega))
  have HT7 := Lib.hid (HT6.out.below (hb67.mono (by omega)))
  have HB7 := Lib.hid (HB6.out.below (hb67.mono (by omega)))
  have hs7 := hb67.size
  have hW7 := hW6.trans (hb67.mono hW6.size)
  clear HT6 HB6 hW6 hb7 hb67
  have hcv : (convert 23 9 (.slice A2 4 c2)).run Try.prog w7 = .ok (.string ⟨T11.A4.toArray⟩) w7 := conv_bytes conv_u8 c2 HB7.out
  obtain ⟨_, _, t0, hA0, _, hg0, k0, k1, k2⟩ := HT7.out.pick (k := 0) (by omega)
  cases hA0
  obtain ⟨_, _, t1, hA1, _, hg1', k3, k4, k5⟩ := HT7.out.pick (k := 1) (by omega)
  cases hA1
  cases hg0
  cases hg1'
  go_wp2_with fail
  refine (may_any (-1) 1 3 w7).mono ?_
  rintro e w8 ⟨rfl, hb8⟩
  have hW8 := hW7.trans (hb8.mono hW7.size)
  go_wp2_with fail
  refine (may_any (-1) 0 0 w8).mono ?_
  rintro e w9 ⟨rfl, hb9⟩
  have hW9 := hW8.trans (hb9.mono hW8.size)
  go_wp2
  go_ret
  exact ⟨rfl, hW9⟩
end Go.Proofs.Ythoipfdapmjcfaa
