/- The walk of steamerlaw10.told: it returns true. -/
import Derived.Test.YtmllblgninmolaaBitsIn
namespace Go.Proofs.Ytmllblgninmolaa
open Go.RowKit
set_option linter.unusedVariables false
theorem OutAt.keep {w w' : World} {go : Nat} {p : Option Addr} {gs : List Nat} {us : List (List Bool)} {pt : List Bool} (h : OutAt w go p gs us pt) (h1 : w'.heap[go]? = w.heap[go]?) (h2 : ∀ g ∈ gs, g < w.heap.size → w'.heap[g]? = w.heap[g]?) : OutAt w' go p gs us pt :=
  ⟨h1.trans h.1, h.2.1.keep h2, h.2.2⟩
theorem OutAt.below {w w' : World} {go : Nat} {p : Option Addr} {gs : List Nat} {us : List (List Bool)} {pt : List Bool} (h : OutAt w go p gs us pt) (hb : Below w.heap.size w w') : OutAt w' go p gs us pt :=
  h.keep (hb.block go h.1.lt) fun g _ hlt => hb.block g hlt
theorem OutAt.alloc {w : World} {go : Nat} {p : Option Addr} {gs : List Nat} {us : List (List Bool)} {pt : List Bool} (h : OutAt w go p gs us pt) (o : Obj) : OutAt (w.alloc o) go p gs us pt :=
  h.keep (Below.heap_alloc w o go h.1.lt) fun g _ hlt => Below.heap_alloc w o g hlt
theorem OutAt.grown {w w' : World} {go gi : Nat} {p : Option Addr} {gs : List Nat} {us : List (List Bool)} {pt : List Bool} (h : OutAt w go p gs us pt) (hg : w.grownBy w' (some gi)) (h1 : go ≠ gi) (h2 : gi ∉ gs) : OutAt w' go p gs us pt :=
  h.keep (hg.block go h.1.lt (fun e => h1 (by injection e))) fun g hm hlt => hg.block g hlt (fun e => h2 (by injection e with e; rw [← e]; exact hm))
theorem OutAt.new (w : World) : OutAt (w.alloc (.cells #[.pointer none, .int .u64 0, .int .i64 0] 40)) w.heap.size none [] [] [] :=
  ⟨Blk.new _ _ _, rfl, by simp, by simp⟩
namespace T10
theorem bits5 : PB.pack (bitsSt [] [] ++ PB.bitsOf 5 3) = [160] := by decide +kernel
theorem get3 : PB.val (((PB.toBits [160]).drop 0).take 3) = 5 := by decide +kernel
theorem rest3 : restB [160] 3 = true := by decide +kernel
end T10
set_option maxRecDepth 100000 in
set_option maxHeartbeats 4000000 in
theorem told10 (w : World) : Calls Try.prog 15 #[] w fun e w' => e = .returned (.bool true) ∧ Below w.heap.size w w' := by
  have HO0 := Lib.hid (OutAt.new w)
  have hW0 : Below w.heap.size w (w.alloc (.cells #[.pointer none, .int .u64 0, .int .i64 0] 40)) := (Below.refl _ _).alloc (Nat.le_refl _) _
  go_enter Try.func15, Try.ntmps15
  go_wp2_with fail
  refine (outPut w.heap.size 5 3 none [] [] [] _ (by decide) (by decide) HO0.out (by simp)).mono ?_
  rintro e w1 ⟨rfl, p, gs, us, pt, hO1, hbits, hg1, hgs⟩
  have HO1 := Lib.hid hO1
  have HBits := Lib.hid hbits
  have hW1 : Below w.heap.size w w1 := hW0.grown hg1 hW0.size (by intro g hg; injection hg with hg; omega)
  have HGs : Hid (∀ g ∈ gs, g < w1.heap.size) := hO1.2.1.lt
  have hlt0 := hO1.1.lt
  have hlen : 64 * us.length + pt.length ≤ 100 := by
    have h1 := congrArg List.length hbits
    have h2 := flat_length hO1.2.1.len
    unfold bitsSt at h1
    rw [List.length_append, h2] at h1
    simp [PB.bitsOf] at h1
    omega
  clear hO1 hbits hg1 hgs HO0 hW0
  go_wp2_with fail
  refine (outPut_bad w.heap.size 1 33 _ (by omega)).mono ?_
  rintro e w2 ⟨rfl, rfl⟩
  go_wp2_with fail
  refine (outBytes w.heap.size p gs us pt _ HO1.out (by omega)).mono ?_
  rw [HBits.out, T10.bits5]
  rintro e w2 ⟨rfl, hZ2, hb2⟩
  have HO2 := Lib.hid (HO1.out.below hb2)
  have HZ2 := Lib.hid hZ2
  have hW2 := hW1.trans (hb2.mono hW1.size)
  have hsz2 := hb2.size
  have hbl : w1.heap.size < w2.heap.size := Blk.lt hZ2
  clear hZ2 hb2 HO1 hW1
  generalize w1.heap.size = gb at *
  have HX := Lib.hid (one_bytes w2 5 160)
  have HO3 := Lib.hid (HO2.out.alloc (.cells #[u8v 160] 5))
  have HZ3 : Hid (ByteBlk (w2.alloc (.cells #[u8v 160] 5)) gb [160]) := Blk.alloc HZ2.out _
  have hW3 := hW2.alloc hW2.size (.cells #[u8v 160] 5)
  have hsz3 : w2.heap.size ≤ (w2.alloc (.cells #[u8v 160] 5)).heap.size := by rw [World.size_alloc]; omega
  clear HO2 HZ2 hW2
  go_wp2_with fail
  refine (inFrom _ 1 1 _ [160] _ HX.out (fun h => by cases h) (by omega)).mono ?_
  rintro e w4 ⟨gi, A, n, c, rfl, hI4, hgi, hb4⟩
  obtain rfl : n = 1 := hI4.2.1.len.symm
  have HI4 := Lib.hid hI4
  have HO4 := Lib.hid (HO3.out.below hb4)
  have HZ4 : Hid (ByteBlk w4 gb [160]) := Blk.below HZ3.out hb4 (Blk.lt HZ3.out)
  have hW4 := hW3.trans (hb4.mono hW3.size)
  have hgi0 : w.heap.size ≠ gi := by omega
  have hgig : Hid (gi ∉ gs) := fun h => by have := HGs.out gi h; omega
  have hgib : gb ≠ gi := by omega
  have hgiW : w.heap.size ≤ gi := by omega
  clear HO3 HZ3 hW3 hI4 hb4 HX hsz3 hgi
  go_wp2_with fail
  have k1 := inGet gi A 1 c [160] 0 3 w4 HI4.out (by omega) (by omega)
  rw [T10.get3] at k1
  have K1 : Hid (Calls Try.prog 22 #[.pointer (some ⟨gi, 0, none⟩), .int .i64 3] w4 fun e w' => e = .returned (.tuple #[.int .u64 5, .int .i64 0]) ∧ InAt w' gi A 1 c [160] 3 ∧ w4.grownBy w' (some gi)) := k1
  clear k1
  refine K1.out.mono ?_
  rintro e w5 ⟨rfl, hI5, hg5⟩
  have HI5 := Lib.hid hI5
  have HO5 := Lib.hid (HO4.out.grown hg5 hgi0 hgig.out)
  have HZ5 : Hid (ByteBlk w5 gb [160]) := Blk.grown' HZ4.out hg5 hgib
  have hW5 := hW4.grown hg5 hW4.size (by intro g hg; injection hg with hg; omega)
  clear HI4 HO4 HZ4 hW4 hI5 hg5 K1
  go_wp2_with fail
  refine (inGet_cut gi A 1 c [160] 3 6 w5 HI5.out (by omega) (by omega)).mono ?_
  rintro e w6 ⟨rfl, hw6⟩
  have HI6 : Hid (InAt w6 gi A 1 c [160] 3) := by rw [← hw6]; exact HI5.out.drew
  have HO6 : Hid (OutAt w6 w.heap.size p gs us pt) := by rw [← hw6]; exact HO5.out.keep rfl (fun _ _ _ => rfl)
  have HZ6 : Hid (ByteBlk w6 gb [160]) := by rw [← hw6]; exact HZ5.out
  have hW6 : Below w.heap.size w w6 := by rw [← hw6]; exact hW5.drew
  clear hw6 HI5 HO5 HZ5 hW5
  go_wp2_with fail
  have k2 := inRest gi A 1 c [160] 3 w6 HI6.out
  rw [T10.rest3] at k2
  refine k2.mono ?_
  rintro e w7 ⟨rfl, hb7⟩
  have HI7 := Lib.hid (HI6.out.below hb7)
  have HO7 := Lib.hid (HO6.out.below hb7)
  have HZ7 : Hid (ByteBlk w7 gb [160]) := Blk.below HZ6.out hb7 (Blk.lt HZ6.out)
  have hW7 := hW6.trans (hb7.mono hW6.size)
  clear HI6 HO6 HZ6 hW6 hb7 k2
  go_wp2_with fail
  refine (inGet_nil 1 _).mono ?_
  rintro e w8 ⟨rfl, rfl⟩
  have cz : w7.cell? ⟨gb, 0, none⟩ = some (.int .u8 160) := Blk.cell HZ7.out 0
  have KL : Hid (Calls Try.prog 21 #[.pointer (some ⟨w.heap.size, 0, none⟩)] w7 fun e w' => e = .returned (.int .i64 3) ∧ w7 = w') := by
    have := outLong w.heap.size p gs us pt w7 HO7.out
    rw [HBits.out] at this
    exact this
  go_wp2_with fail
  refine KL.out.mono ?_
  rintro e w8 ⟨rfl, rfl⟩
  clear cz KL
  have KF : Hid (Calls Try.prog 24 #[.pointer (some ⟨gi, 0, none⟩)] w7 fun e w' => e = .returned (.int .i64 5) ∧ w7.drew = w') := inLeft gi A 1 c [160] 3 w7 HI7.out
  go_wp2_with fail
  refine KF.out.mono ?_
  rintro e w8 ⟨rfl, hw8⟩
  have hW8 : Below w.heap.size w w8 := by rw [← hw8]; exact hW7.drew
  clear hw8 KF hW7 HI7 HO7 HZ7
  go_wp2_with fail
  refine (outPut_nil 1 1 _).mono ?_
  rintro e w9 ⟨rfl, rfl⟩
  go_wp2_with fail
  refine (inLeft_nil _).mono ?_
  rintro e w9 ⟨rfl, rfl⟩
  go_wp2_with fail
  refine (inRest_nil _).mono ?_
  rintro e w9 ⟨rfl, rfl⟩
  go_wp2_with fail
  go_ret
  exact ⟨rfl, hW8⟩
end Go.Proofs.Ytmllblgninmolaa
