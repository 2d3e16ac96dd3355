/- The walk of TagLong: the sum is the polynomial of 15.1, also after one byte more. -/
import Derived.Test.YtbmccgiffplpjaaTold15
import Derived.Test.YtbmccgiffplpjaaAppend
namespace Go.Proofs.Ytbmccgiffplpjaa
open Go.RowKit
set_option linter.unusedVariables false
theorem byteRow : ByteRow Try.prog 24 5 := by
  have h : (Try.prog.info? 5).map (fun i => (i.zero, i.size, i.bytes)) = some (some (.int .u8 0), 1, 1) := by kernel_rfl
  obtain ⟨i, h1, h2, h3, h4⟩ := info_parts h
  exact ⟨Try.underlying24, i, h1, h2, h3, h4⟩
theorem long_step (v x : Nat) (c : UInt8) (hv : v < 4294967291) (hx : x < 4294967291) :
    (IntKind.u64.wrap (IntKind.u64.wrap (IntKind.u64.wrap ((v : Int) * (x : Int)) + IntKind.u64.wrap (c.toNat : Int)) + 1)).tmod 4294967291 = ((PL.sumStep x v c : Nat) : Int) := by
  have h1 := mul_lt64 v x hv hx
  have hc := c.toNat_lt
  have e : (v : Int) * (x : Int) = ((v * x : Nat) : Int) := by simp
  rw [← PL.step_plain]
  unfold PL.Prm
  rw [e]
  generalize v * x = m at *
  rw [IntWalk.u64_in (m : Int) (by omega), IntWalk.u64_in (c.toNat : Int) (by omega), IntWalk.u64_in ((m : Int) + c.toNat) (by omega), IntWalk.u64_in _ (by omega), Int.tmod_eq_emod_of_nonneg (by omega)]
  omega
theorem long_end (v x k : Nat) (hv : v < 4294967291) (hx : x < 4294967291) (hk : k ≤ 1000) :
    (IntKind.u64.wrap (IntKind.u64.wrap ((v : Int) * (x : Int)) + (k : Int))).tmod 4294967291 % 4294967296 = (((v * x % PL.Prm + k) % PL.Prm : Nat) : Int) := by
  have h1 := mul_lt64 v x hv hx
  have e : (v : Int) * (x : Int) = ((v * x : Nat) : Int) := by simp
  rw [Nat.mod_add_mod]
  unfold PL.Prm
  rw [e]
  generalize v * x = m at *
  rw [IntWalk.u64_in (m : Int) (by omega), IntWalk.u64_in _ (by omega), Int.tmod_eq_emod_of_nonneg (by omega)]
  omega
set_option maxRecDepth 100000 in
set_option maxHeartbeats 4000000 in
theorem tagLong (r s : Int) (A : Option Addr) (n c : Nat) (l : List UInt8) (d : UInt8) (w : World) (hr0 : 0 ≤ r) (hr : r ≤ 4294967295) (hs0 : 0 ≤ s) (hs : s ≤ 4294967295) (hb : Bytes w w.heap.size A n l) (hc : n ≤ c) (hm : c ≤ maxLen) (hz : A = none → n = 0 ∧ c = 0) :
    Calls Try.prog 6 #[.int .u32 r, .int .u32 s, .slice A n c, .int .u8 (d.toNat : Int)] w fun e w' => e = .returned (.bool true) ∧ Below w.heap.size w w' := by
  have HB := Lib.hid hb
  have HZ := Lib.hid hz
  clear hb hz
  unfold maxLen at hm
  by_cases hlt : 100 < n
  · go_enter Try.func6, Try.ntmps6
    go_wp2_with (go_at_call 12; refine (told15 _).mono ?_; rintro e w2 ⟨rfl, hb2⟩)
    go_ret
    exact ⟨rfl, hb2⟩
  · go_enter Try.func6, Try.ntmps6
    go_wp2
    have e1 : r % 4294967290 + 1 = ((r.toNat % (PL.Prm - 1) + 1 : Nat) : Int) := by
      unfold PL.Prm
      omega
    have e2 : s % 4294967291 = ((s.toNat % PL.Prm : Nat) : Int) := by
      unfold PL.Prm
      omega
    rw [e1, e2]
    clear e1 e2
    obtain ⟨x, hx⟩ : ∃ x, x = r.toNat % (PL.Prm - 1) + 1 := ⟨_, rfl⟩
    obtain ⟨v0, hv0⟩ : ∃ v0, v0 = s.toNat % PL.Prm := ⟨_, rfl⟩
    have hx1 : x < 4294967291 := by rw [hx]; exact (PL.x_ok r.toNat).2
    have hv1 : v0 < 4294967291 := by rw [hv0]; exact Nat.mod_lt _ (by decide)
    rw [← hx, ← hv0]
    have HX := Lib.hid hx
    have HV0 := Lib.hid hv0
    clear hx hv0
    go_loop [10, 11] (fun q i => ∃ k v : Nat, k ≤ n ∧ v < 4294967291 ∧ i = .int .i64 k ∧ q = .int .u64 v ∧ Hid (v = PL.sumGo x v0 (l.take k))) (fun _ i => n - (intOf i).toNat)
    case atStart => exact ⟨0, v0, Nat.zero_le _, hv1, rfl, rfl, rfl⟩
    case round =>
      obtain ⟨k, v, hk, hv, rfl, rfl, HV⟩ := hrel
      by_cases hlt2 : k < n
      · obtain ⟨b, off, hl, rfl, _, hcell⟩ := HB.out.at_ hlt2
        go_wp2
        rw [long_step v x l[k] hv hx1]
        go_round
        case rel =>
          refine ⟨k + 1, PL.sumStep x v l[k], hlt2, PL.sumStep_lt _ _ _, by go_num, rfl, ?_⟩
          show _ = _
          rw [List.take_succ_eq_append_getElem hl, PL.sumGo_snoc, ← HV.out]
        case measure => simp [intOf]; omega
      · obtain rfl : k = n := by omega
        go_wp2_with (go_at_call 12; refine (told15 _).mono ?_; rintro e w2 ⟨rfl, hb2⟩)
        have hlen := HB.out.len
        have hS1 : (v * x % PL.Prm + k) % PL.Prm = PL.sumOf r.toNat s.toNat l := by
          unfold PL.sumOf
          rw [← HX.out, ← HV0.out, HV.out, List.take_of_length_le (by omega), hlen]
        have hS2 : (PL.sumStep x v d * x % PL.Prm + (k + 1)) % PL.Prm = PL.sumOf r.toNat s.toNat (l ++ [d]) := by
          unfold PL.sumOf
          rw [← HX.out, ← HV0.out, PL.sumGo_snoc, HV.out, List.take_of_length_le (by omega), List.length_append, hlen]
          rfl
        have e3 := long_end (PL.sumStep x v d) x (k + 1) (PL.sumStep_lt _ _ _) hx1 (by omega)
        rw [show (((k + 1 : Nat) : Int)) = (k : Int) + 1 from by omega] at e3
        rw [long_step v x d hv hx1, long_end v x k hv hx1 (by omega), e3, hS1, hS2]
        clear hS1 hS2 e3 HX HV0 HV hlen
        have HB2 := Lib.hid (HB.out.below hb2)
        refine (sum_any r s A k c w.heap.size l _ hr0 hr hs0 hs HB2.out (by omega)).mono ?_
        rintro e w3 ⟨rfl, rfl⟩
        have hle : w.heap.size ≤ w2.heap.size := hb2.size
        have hO := Own.empty_ w2 5 #[] rfl
        have hsz5 : ([] ++ l : List UInt8).length + 1 ≤ 1000000000000 := by have := HB2.out.len; simp; omega
        have hB3 := (HB2.out.more hle).alloc (Nat.le_refl _) (Obj.cells #[] 5)
        go_wp2_with (first
          | (refine wpList_of_wp rfl (fun K hK => wp_append_bytes (.tmp 81) (.tmp 82) 24 byteRow rfl l rfl hO w2.heap.size A k c rfl hB3 (fun h => (HZ.out h).2) (by simp; omega) (by simp) ?_); intro v1 w4 hO4 hg4 hat4; refine hK _ _ ?_; clear hK K; have hO5 := hO4.alloc (Obj.cells #[u8v d] 5); have hD5 := one_bytes w4 5 d; have hbs5 : w2.heap.size ≤ (w4.alloc (Obj.cells #[u8v d] 5)).heap.size := (by have := hg4.size; simp only [World.size_alloc] at this ⊢; omega))
          | (refine wpList_of_wp rfl (fun K hK => wp_append_bytes (.tmp 83) (.tmp 85) 24 byteRow rfl [d] rfl hO5 (w4.heap.size + 1) (some ⟨w4.heap.size, 0, none⟩) 1 1 rfl hD5 (fun h => by cases h) hsz5 hbs5 ?_); intro v2 w6 hO6 hg6 hat6; refine hK _ _ ?_; clear hK K))
        obtain ⟨A2, c2, hv2, hB6, _⟩ := hO6.form
        rw [List.nil_append] at hB6 hv2
        rw [hv2]
        refine (sum_any r s A2 (l ++ [d]).length c2 w6.heap.size (l ++ [d]) _ hr0 hr hs0 hs hB6 (by have := HB2.out.len; simp; omega)).mono ?_
        rintro e w7 ⟨rfl, rfl⟩
        have hr4 : ∀ g, v1.ownBlock = some g → w2.heap.size ≤ g := (hO4.form).choose_spec.choose_spec.2.2.2.2
        have hW4 : Below w.heap.size w w4 := (hb2.alloc hle _).grown hg4 (by simp; omega) (by intro g hg; injection (show some w2.heap.size = some g from hg) with hg; omega)
        have hW6 : Below w.heap.size w w6 := (hW4.alloc hW4.size _).grown hg6 (by have := hW4.size; simp; omega) (by intro g hg; have := hr4 g hg; omega)
        clear hO hB3 hsz5 hO4 hg4 hat4 hO5 hD5 hbs5 hO6 hg6 hat6 hv2 hB6 hW4 hr4
        go_wp2
        go_ret
        exact ⟨rfl, hW6⟩
theorem walkTagLong (r s : Int) (A : Option Addr) (n c : Nat) (l : List UInt8) (d : Int) (w : World) (hr : (Lit.int .u32 r).wf = true) (hs : (Lit.int .u32 s).wf = true) (hb : Bytes w w.heap.size A n l) (hc : n ≤ c) (hm : c ≤ maxLen) (hz : A = none → n = 0 ∧ c = 0) (hd : (Lit.int .u8 d).wf = true) :
    Calls Try.prog 6 #[.int .u32 r, .int .u32 s, .slice A n c, .int .u8 d] w fun e w' => e = .returned (.bool true) ∧ Below w.heap.size w w' := by
  have h1 := bounds_u32 hr
  have h2 := bounds_u32 hs
  have h3 := bounds_u8 hd
  have h4 : ((UInt8.ofNat d.toNat).toNat : Int) = d := by rw [UInt8.toNat_ofNat']; omega
  have h := tagLong r s A n c l (UInt8.ofNat d.toNat) w (by omega) (by omega) (by omega) (by omega) hb hc hm hz
  rwa [h4] at h
end Go.Proofs.Ytbmccgiffplpjaa
