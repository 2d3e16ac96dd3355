/- The walks of num.Text and num.GetText, and of the reference's Put. -/
import Derived.Test.YtmllblgninmolaaNumPut
import Derived.Test.YtmllblgninmolaaNumGet
import Derived.Test.YtmllblgninmolaaSlices
import Derived.Lib.AppendStr
namespace Go.Proofs.Ytmllblgninmolaa
open Go.RowKit
set_option linter.unusedVariables false
theorem wp_append_str {P : Program} {w : World} {base : Nat} {v : Value} {l : List UInt8} {e : TypeId} {o : Oper} {a : Act} {K : Act → World → Prop} {Q : Exit → Act → World → Prop} (s x : Operand) (t u : TypeId) (hr : ByteRow P t e) (hu : P.underlying u = some .string)
    (ho : o.op = .call { callee := .builtin .append, args := #[s, x], argTypes := #[t, u] })
    (hs : a.eval s = v) (hown : Own e w base v l) (b : ByteArray) (hx : a.eval x = .string b)
    (hsz : l.length + b.size ≤ 1000000000000) (hbase : base ≤ w.heap.size)
    (h : ∀ v' w', Own e w' base v' (l ++ b.data.toList) → w.grownBy w' v.ownBlock → K (a.put o.dst v') w') : o.wp P a w K Q := by
  obtain ⟨ht, i, hi, hz, hsi, hby⟩ := hr
  obtain ⟨v', w', hrun, h2, h3, _⟩ := Lib.run_append_own_string (P := P) w base t u o.type e i ht hu hi hz hsi hby v l.length (l.map u8v) hown b (by unfold maxLen; omega) (by omega) hbase
  unfold Oper.wp execOp
  simp only [ho, resolve, invoke, builtin, Sem.run_bind, Sem.run_pure, Result.andThen_ok, List.map_toArray, List.map_cons, List.map_nil, hs, hx, hrun]
  refine h v' w' ?_ h3
  unfold Own
  rw [List.length_append, List.map_append, Array.length_toList]
  exact h2
set_option maxRecDepth 100000 in
set_option maxHeartbeats 1000000 in
theorem numText (s : ByteArray) (hs : s.size ≤ 100000000000) (w : World) : Calls Try.prog 12 #[.string s] w (Gave w (PN.enc s.size ++ s.data.toList)) := by
  have hn : s.size < PN.M64 := by unfold PN.M64; omega
  have hl := PN.enc_len64 _ hn
  go_enter Try.func12, Try.ntmps12
  go_wp2_with fail
  refine (numPut s.size hn _).mono ?_
  rintro e w1 ⟨v, rfl, hO, hb⟩
  have HO := Lib.hid hO
  clear hO
  go_wp2_with (refine wpList_of_wp rfl (fun K hK => wp_append_str (.tmp 6) (.tmp 7) 23 9 row_u8 Try.underlying9 rfl rfl HO.out s rfl (by omega) hb.size ?_); intro v1 w2 hO1 hg1; refine hK _ _ ?_; clear hK K)
  go_ret
  exact ⟨v1, rfl, hO1, below_grown_own hb HO.out hg1⟩
set_option maxRecDepth 100000 in
set_option maxHeartbeats 1000000 in
theorem numGetText_err (A : Option Addr) (n c B t : Nat) (q : Int) (l : List UInt8) (w : World) (hb : Bytes w B A n l) (hn : n ≤ 1000000000000) (ht : t ≤ n) (v i e : Nat) (hg : getRes l t = (v, i, e)) (he : e ≠ 0) :
    Calls Try.prog 13 #[.slice A n c, .int .i64 (t : Int), .int .i64 q] w fun r w' => r = .returned (.tuple #[.string ⟨#[]⟩, .int .i64 (t : Int), .int .i64 (e : Int)]) ∧ w = w' := by
  have h := numGet A n c B t l w hb hn ht
  rw [hg] at h
  have H := Lib.hid h
  have he' := ne0_true he
  clear h hg hb he
  go_enter Try.func13, Try.ntmps13
  go_wp2_with fail
  refine H.out.mono ?_
  rintro r w1 ⟨rfl, rfl⟩
  go_wp2
  go_ret3
  exact ⟨rfl, rfl⟩
set_option maxRecDepth 100000 in
set_option maxHeartbeats 1000000 in
theorem numGetText_limit (A : Option Addr) (n c B t : Nat) (q : Int) (l : List UInt8) (w : World) (hb : Bytes w B A n l) (hn : n ≤ 1000000000000) (ht : t ≤ n) (v i : Nat) (hg : getRes l t = (v, i, 0)) (hq : q ≤ 1000000000000) (he : q < 0 ∨ q < (v : Int)) :
    Calls Try.prog 13 #[.slice A n c, .int .i64 (t : Int), .int .i64 q] w fun r w' => r = .returned (.tuple #[.string ⟨#[]⟩, .int .i64 (t : Int), .int .i64 13]) ∧ w = w' := by
  have h := numGet A n c B t l w hb hn ht
  rw [hg] at h
  have H := Lib.hid h
  clear h hg hb
  obtain h1 | ⟨h1, h2⟩ : q < 0 ∨ ¬ q < 0 ∧ q < (v : Int) := by omega
  all_goals
    clear he
    go_enter Try.func13, Try.ntmps13
    go_wp2_with fail
    refine H.out.mono ?_
    rintro r w1 ⟨rfl, rfl⟩
    go_wp2
    go_ret3
    exact ⟨rfl, rfl⟩
set_option maxRecDepth 100000 in
set_option maxHeartbeats 1000000 in
theorem numGetText_bytes (A : Option Addr) (n c B t : Nat) (q : Int) (l : List UInt8) (w : World) (hb : Bytes w B A n l) (hn : n ≤ 1000000000000) (ht : t ≤ n) (v i : Nat) (hg : getRes l t = (v, i, 0)) (hq : q ≤ 1000000000000) (he : (v : Int) ≤ q) (hi : i ≤ n) (hv : n < i + v) :
    Calls Try.prog 13 #[.slice A n c, .int .i64 (t : Int), .int .i64 q] w fun r w' => r = .returned (.tuple #[.string ⟨#[]⟩, .int .i64 (t : Int), .int .i64 3]) ∧ w = w' := by
  have h := numGet A n c B t l w hb hn ht
  rw [hg] at h
  have H := Lib.hid h
  clear h hg hb
  have h1 : ¬ q < 0 := by omega
  have h2 : ¬ q < (v : Int) := by omega
  have h3 : (n : Int) - (i : Int) < (v : Int) := by omega
  go_enter Try.func13, Try.ntmps13
  go_wp2_with fail
  refine H.out.mono ?_
  rintro r w1 ⟨rfl, rfl⟩
  go_wp2
  go_ret3
  exact ⟨rfl, rfl⟩
set_option maxRecDepth 100000 in
set_option maxHeartbeats 1000000 in
theorem numGetText_ok (A : Option Addr) (n c B t : Nat) (q : Int) (l : List UInt8) (w : World) (hb : Bytes w B A n l) (hc : n ≤ c) (hn : n ≤ 1000000000000) (ht : t ≤ n) (v i : Nat) (hg : getRes l t = (v, i, 0)) (hq : q ≤ 1000000000000) (he : (v : Int) ≤ q) (hv : i + v ≤ n) :
    Calls Try.prog 13 #[.slice A n c, .int .i64 (t : Int), .int .i64 q] w fun r w' => r = .returned (.tuple #[.string ⟨((l.drop i).take v).toArray⟩, .int .i64 ((i + v : Nat) : Int), .int .i64 0]) ∧ w = w' := by
  have h := numGet A n c B t l w hb hn ht
  rw [hg] at h
  have H := Lib.hid h
  have h1 : ¬ q < 0 := by omega
  have h2 : ¬ q < (v : Int) := by omega
  have h3 : ¬ (n : Int) - (i : Int) < (v : Int) := by omega
  have hs := run_part_at row_u8 A n c i (i + v) (by omega) (by omega) w
  have hcv := conv_bytes conv_u8 (c - i) (hb.part (i := i) (j := i + v) (m := c) (by omega) hv (by omega))
  have e1 : i + v - i = v := by omega
  have e2 : ((i + v : Nat) : Int) = (i : Int) + (v : Int) := by omega
  rw [e1] at hs hcv
  rw [e2] at hs ⊢
  clear h hg hb e1 e2
  go_enter Try.func13, Try.ntmps13
  go_wp2_with fail
  refine H.out.mono ?_
  rintro r w1 ⟨rfl, rfl⟩
  go_wp2
  go_ret3
  exact ⟨rfl, rfl⟩
end Go.Proofs.Ytmllblgninmolaa
