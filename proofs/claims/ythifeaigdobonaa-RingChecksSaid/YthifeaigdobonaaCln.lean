/- slices.Clone: a row of one's own, with the same cells. -/
import Derived.Test.YthifeaigdobonaaApp
import Derived.Test.YthifeaigdobonaaMem
import Derived.ArgAppend
import Derived.Lib.Hide
import Derived.Lib.SliceRun
namespace Go.Proofs.Ythifeaigdobonaa
open Go.RowKit

theorem wpList_append_zero {P : Program} {w : World} {ops : Array Oper} {rest : List Oper} {o : Oper} {a : Act} {Q : Exit → Act → World → Prop} (hgd : o.guard = none) (s x : Operand) (t : TypeId)
    (ho : o.op = .call { callee := .builtin .append, args := #[s, x], argTypes := #[t, t] }) (e : TypeId) (i : TypeInfo) (ht : P.underlying t = some (.slice e)) (hi : P.info? e = some i)
    (g n cap : Nat) (hs : a.eval s = .slice (some ⟨g, 0, none⟩) n cap) (hn : n ≤ cap) (ad : Addr) (c : Nat) (hx : a.eval x = .slice (some ad) 0 c)
    (h : wpList P ops Q rest (a.put o.dst (.slice (some ⟨g, 0, none⟩) n cap)) w) : wpList P ops Q (o :: rest) a w := by
  refine wpList_plain hgd fun K hK => ?_
  have hrun := run_append_room_cells (P := P) (w := w) t o.type e i ht hi g 0 n cap ad 0 c [] (by simp) (by simp) (by simp) (by omega) (by simp) (by simp)
  unfold Oper.wp
  simp [execOp, ho, resolve, invoke, builtin, hs, hx, hrun, Result.andThen]
  exact hK _ _ (by simpa [World.setCells] using h)

theorem infoCall : (Try.prog.info? 66).map (fun i => (i.zero, i.size, i.bytes)) = some (some (.agg #[.int .i64 0, .int .i64 0, .int .i64 0, .int .i64 0, .int .i64 0, .int .i64 0, .int .i64 0, .int .i64 0, .int .i64 0]), 9, 72) := by kernel_rfl
theorem infoInt : (Try.prog.info? 3).map (fun i => (i.zero, i.size, i.bytes)) = some (some (.int .i64 0), 1, 8) := by kernel_rfl

set_option maxRecDepth 100000 in
theorem clone_u64 (W w : World) (v : Value) (n : Nat) (xs : List Value) (S F : Hp) (hn : n * 8 ≤ 140737488355328) (h1 : ∀ u ∈ xs, u.oneCell' = true) (hrow : RowAt 82 1 v n xs S) (h : Holds W w (S + F)) :
    Calls Try.prog 83 #[v] w fun e w' => ∃ v' S', e = .returned v' ∧ RowAt 82 1 v' n xs S' ∧ Holds W w' (S' + (S + F)) := by
  obtain ⟨i0, hi, hz0, hz1, hz2⟩ := info_parts infoU64
  have q : ∀ (w : World) (a : Option Addr) (n c n' c' : Nat), (binOp .eql 31 (.slice a n c) (.slice none n' c')).run Try.prog w = .ok (.bool a.isNone) w := fun w a n c n' c' => Lib.run_eql_slice_nil w _ _ a n c n' c' Try.underlying31
  have hr2 := hrow
  have HN := Lib.hid hn
  have H1 := Lib.hid h1
  clear hn h1
  obtain ⟨hx, ⟨rfl, rfl, rfl⟩ | ⟨g, cap, rest, rfl, p1, p2, p3, rfl⟩⟩ := hrow
  · go_enter Try.func83, Try.ntmps83
    go_wp2_with fail
    go_ret
    exact ⟨_, emp, rfl, hr2, h.of_eq (Hp.emp_add _).symm⟩
  · rcases Nat.eq_zero_or_pos n with rfl | hpos
    · obtain rfl : xs = [] := List.eq_nil_of_length_eq_zero (by simpa using hx)
      have h2 := h.new w.heap.size rfl (.cells #[] 82 (0, 0))
      go_enter Try.func83, Try.ntmps83
      go_wp2_with (at_builtin; go_must (refine wpList_append_zero rfl (.tmp 5) (.tmp 6) 31 rfl 82 i0 Try.underlying31 hi w.heap.size 0 0 rfl (by decide) ⟨g, 0, none⟩ cap rfl ?_))
      go_wp2_with fail
      go_ret
      exact ⟨_, _, rfl, RowAt.mk 82 1 w.heap.size 0 0 [] [] rfl (by decide) (by decide) rfl, h2⟩
    · have h2 := h.new w.heap.size rfl (.cells #[] 82 (0, 0))
      have hnews : ∀ j u, xs[j]? = some u → (w.alloc (.cells #[] 82 (0, 0))).cell? ((⟨g, 0, none⟩ : Addr).add j) = some u := by
        intro j u hu
        rw [add_none, (h2.of_eq (show _ = pt g (.cells (xs ++ rest).toArray 82 (0, 0)) + (pt w.heap.size (.cells #[] 82 (0, 0)) + F) from by ac_rfl)).cell]
        simpa [List.getElem?_append, (List.getElem?_eq_some_iff.1 hu).1] using hu
      have HB : Go.RowKit.Hid (0 + n ≤ maxLen ∧ (0 + n) * 8 ≤ 140737488355328) := Lib.hid (by have := HN.out; unfold maxLen; omega)
      go_enter Try.func83, Try.ntmps83
      go_wp2_with (at_builtin; go_must (refine wpList_append_live (W := W) (F := pt g (.cells (xs ++ rest).toArray 82 (0, 0)) + F) rfl (.tmp 5) (.tmp 6) 31 rfl 82 i0 _ 1 8 Try.underlying31 hi hz0 hz1 hz2 rfl (by decide) (.slice (some ⟨w.heap.size, 0, none⟩) 0 0) 0 [] _ rfl (RowAt.mk 82 1 w.heap.size 0 0 [] [] rfl (by decide) (by decide) rfl) ⟨g, 0, none⟩ n cap xs rfl hx H1.out hpos HB.out.1 HB.out.2 h2 hnews ?_))
      intro g2 cap2 w2 S2 r1 r2
      go_wp2_with fail
      go_ret
      exact ⟨_, S2, rfl, r1, r2⟩

set_option maxRecDepth 100000 in
theorem clone_acc (W w : World) (v : Value) (n : Nat) (xs : List Value) (S F : Hp) (hn : n * 56 ≤ 140737488355328) (h1 : ∀ u ∈ xs, u.oneCell' = true) (hrow : RowAt 103 7 v n xs S) (h : Holds W w (S + F)) :
    Calls Try.prog 85 #[v] w fun e w' => ∃ v' S', e = .returned v' ∧ RowAt 103 7 v' n xs S' ∧ Holds W w' (S' + (S + F)) := by
  obtain ⟨i0, hi, hz0, hz1, hz2⟩ := info_parts infoAcc
  have q : ∀ (w : World) (a : Option Addr) (n c n' c' : Nat), (binOp .eql 29 (.slice a n c) (.slice none n' c')).run Try.prog w = .ok (.bool a.isNone) w := fun w a n c n' c' => Lib.run_eql_slice_nil w _ _ a n c n' c' Try.underlying29
  have hr2 := hrow
  have HN := Lib.hid hn
  have H1 := Lib.hid h1
  clear hn h1
  obtain ⟨hx, ⟨rfl, rfl, rfl⟩ | ⟨g, cap, rest, rfl, p1, p2, p3, rfl⟩⟩ := hrow
  · go_enter Try.func85, Try.ntmps85
    go_wp2_with fail
    go_ret
    exact ⟨_, emp, rfl, hr2, h.of_eq (Hp.emp_add _).symm⟩
  · rcases Nat.eq_zero_or_pos n with rfl | hpos
    · obtain rfl : xs = [] := List.eq_nil_of_length_eq_zero (by simpa using hx)
      have h2 := h.new w.heap.size rfl (.cells #[] 103 (0, 0))
      go_enter Try.func85, Try.ntmps85
      go_wp2_with (at_builtin; go_must (refine wpList_append_zero rfl (.tmp 5) (.tmp 6) 29 rfl 103 i0 Try.underlying29 hi w.heap.size 0 0 rfl (by decide) ⟨g, 0, none⟩ cap rfl ?_))
      go_wp2_with fail
      go_ret
      exact ⟨_, _, rfl, RowAt.mk 103 7 w.heap.size 0 0 [] [] rfl (by decide) (by decide) rfl, h2⟩
    · have h2 := h.new w.heap.size rfl (.cells #[] 103 (0, 0))
      have hnews : ∀ j u, xs[j]? = some u → (w.alloc (.cells #[] 103 (0, 0))).cell? ((⟨g, 0, none⟩ : Addr).add j) = some u := by
        intro j u hu
        rw [add_none, (h2.of_eq (show _ = pt g (.cells (xs ++ rest).toArray 103 (0, 0)) + (pt w.heap.size (.cells #[] 103 (0, 0)) + F) from by ac_rfl)).cell]
        simpa [List.getElem?_append, (List.getElem?_eq_some_iff.1 hu).1] using hu
      have HB : Go.RowKit.Hid (0 + n ≤ maxLen ∧ (0 + n) * 56 ≤ 140737488355328) := Lib.hid (by have := HN.out; unfold maxLen; omega)
      go_enter Try.func85, Try.ntmps85
      go_wp2_with (at_builtin; go_must (refine wpList_append_live (W := W) (F := pt g (.cells (xs ++ rest).toArray 103 (0, 0)) + F) rfl (.tmp 5) (.tmp 6) 29 rfl 103 i0 _ 7 56 Try.underlying29 hi hz0 hz1 hz2 rfl (by decide) (.slice (some ⟨w.heap.size, 0, none⟩) 0 0) 0 [] _ rfl (RowAt.mk 103 7 w.heap.size 0 0 [] [] rfl (by decide) (by decide) rfl) ⟨g, 0, none⟩ n cap xs rfl hx H1.out hpos HB.out.1 HB.out.2 h2 hnews ?_))
      intro g2 cap2 w2 S2 r1 r2
      go_wp2_with fail
      go_ret
      exact ⟨_, S2, rfl, r1, r2⟩

set_option maxRecDepth 100000 in
theorem clone_call (W w : World) (v : Value) (n : Nat) (xs : List Value) (S F : Hp) (hn : n * 72 ≤ 140737488355328) (h1 : ∀ u ∈ xs, u.oneCell' = true) (hrow : RowAt 66 9 v n xs S) (h : Holds W w (S + F)) :
    Calls Try.prog 57 #[v] w fun e w' => ∃ v' S', e = .returned v' ∧ RowAt 66 9 v' n xs S' ∧ Holds W w' (S' + (S + F)) := by
  obtain ⟨i0, hi, hz0, hz1, hz2⟩ := info_parts infoCall
  have q : ∀ (w : World) (a : Option Addr) (n c n' c' : Nat), (binOp .eql 28 (.slice a n c) (.slice none n' c')).run Try.prog w = .ok (.bool a.isNone) w := fun w a n c n' c' => Lib.run_eql_slice_nil w _ _ a n c n' c' Try.underlying28
  have hr2 := hrow
  have HN := Lib.hid hn
  have H1 := Lib.hid h1
  clear hn h1
  obtain ⟨hx, ⟨rfl, rfl, rfl⟩ | ⟨g, cap, rest, rfl, p1, p2, p3, rfl⟩⟩ := hrow
  · go_enter Try.func57, Try.ntmps57
    go_wp2_with fail
    go_ret
    exact ⟨_, emp, rfl, hr2, h.of_eq (Hp.emp_add _).symm⟩
  · rcases Nat.eq_zero_or_pos n with rfl | hpos
    · obtain rfl : xs = [] := List.eq_nil_of_length_eq_zero (by simpa using hx)
      have h2 := h.new w.heap.size rfl (.cells #[] 66 (0, 0))
      go_enter Try.func57, Try.ntmps57
      go_wp2_with (at_builtin; go_must (refine wpList_append_zero rfl (.tmp 5) (.tmp 6) 28 rfl 66 i0 Try.underlying28 hi w.heap.size 0 0 rfl (by decide) ⟨g, 0, none⟩ cap rfl ?_))
      go_wp2_with fail
      go_ret
      exact ⟨_, _, rfl, RowAt.mk 66 9 w.heap.size 0 0 [] [] rfl (by decide) (by decide) rfl, h2⟩
    · have h2 := h.new w.heap.size rfl (.cells #[] 66 (0, 0))
      have hnews : ∀ j u, xs[j]? = some u → (w.alloc (.cells #[] 66 (0, 0))).cell? ((⟨g, 0, none⟩ : Addr).add j) = some u := by
        intro j u hu
        rw [add_none, (h2.of_eq (show _ = pt g (.cells (xs ++ rest).toArray 66 (0, 0)) + (pt w.heap.size (.cells #[] 66 (0, 0)) + F) from by ac_rfl)).cell]
        simpa [List.getElem?_append, (List.getElem?_eq_some_iff.1 hu).1] using hu
      have HB : Go.RowKit.Hid (0 + n ≤ maxLen ∧ (0 + n) * 72 ≤ 140737488355328) := Lib.hid (by have := HN.out; unfold maxLen; omega)
      go_enter Try.func57, Try.ntmps57
      go_wp2_with (at_builtin; go_must (refine wpList_append_live (W := W) (F := pt g (.cells (xs ++ rest).toArray 66 (0, 0)) + F) rfl (.tmp 5) (.tmp 6) 28 rfl 66 i0 _ 9 72 Try.underlying28 hi hz0 hz1 hz2 rfl (by decide) (.slice (some ⟨w.heap.size, 0, none⟩) 0 0) 0 [] _ rfl (RowAt.mk 66 9 w.heap.size 0 0 [] [] rfl (by decide) (by decide) rfl) ⟨g, 0, none⟩ n cap xs rfl hx H1.out hpos HB.out.1 HB.out.2 h2 hnews ?_))
      intro g2 cap2 w2 S2 r1 r2
      go_wp2_with fail
      go_ret
      exact ⟨_, S2, rfl, r1, r2⟩

set_option maxRecDepth 100000 in
theorem clone_int (W w : World) (v : Value) (n : Nat) (xs : List Value) (S F : Hp) (hn : n * 8 ≤ 140737488355328) (h1 : ∀ u ∈ xs, u.oneCell' = true) (hrow : RowAt 3 1 v n xs S) (h : Holds W w (S + F)) :
    Calls Try.prog 89 #[v] w fun e w' => ∃ v' S', e = .returned v' ∧ RowAt 3 1 v' n xs S' ∧ Holds W w' (S' + (S + F)) := by
  obtain ⟨i0, hi, hz0, hz1, hz2⟩ := info_parts infoInt
  have q : ∀ (w : World) (a : Option Addr) (n c n' c' : Nat), (binOp .eql 51 (.slice a n c) (.slice none n' c')).run Try.prog w = .ok (.bool a.isNone) w := fun w a n c n' c' => Lib.run_eql_slice_nil w _ _ a n c n' c' Try.underlying51
  have hr2 := hrow
  have HN := Lib.hid hn
  have H1 := Lib.hid h1
  clear hn h1
  obtain ⟨hx, ⟨rfl, rfl, rfl⟩ | ⟨g, cap, rest, rfl, p1, p2, p3, rfl⟩⟩ := hrow
  · go_enter Try.func89, Try.ntmps89
    go_wp2_with fail
    go_ret
    exact ⟨_, emp, rfl, hr2, h.of_eq (Hp.emp_add _).symm⟩
  · rcases Nat.eq_zero_or_pos n with rfl | hpos
    · obtain rfl : xs = [] := List.eq_nil_of_length_eq_zero (by simpa using hx)
      have h2 := h.new w.heap.size rfl (.cells #[] 3 (0, 0))
      go_enter Try.func89, Try.ntmps89
      go_wp2_with (at_builtin; go_must (refine wpList_append_zero rfl (.tmp 5) (.tmp 6) 51 rfl 3 i0 Try.underlying51 hi w.heap.size 0 0 rfl (by decide) ⟨g, 0, none⟩ cap rfl ?_))
      go_wp2_with fail
      go_ret
      exact ⟨_, _, rfl, RowAt.mk 3 1 w.heap.size 0 0 [] [] rfl (by decide) (by decide) rfl, h2⟩
    · have h2 := h.new w.heap.size rfl (.cells #[] 3 (0, 0))
      have hnews : ∀ j u, xs[j]? = some u → (w.alloc (.cells #[] 3 (0, 0))).cell? ((⟨g, 0, none⟩ : Addr).add j) = some u := by
        intro j u hu
        rw [add_none, (h2.of_eq (show _ = pt g (.cells (xs ++ rest).toArray 3 (0, 0)) + (pt w.heap.size (.cells #[] 3 (0, 0)) + F) from by ac_rfl)).cell]
        simpa [List.getElem?_append, (List.getElem?_eq_some_iff.1 hu).1] using hu
      have HB : Go.RowKit.Hid (0 + n ≤ maxLen ∧ (0 + n) * 8 ≤ 140737488355328) := Lib.hid (by have := HN.out; unfold maxLen; omega)
      go_enter Try.func89, Try.ntmps89
      go_wp2_with (at_builtin; go_must (refine wpList_append_live (W := W) (F := pt g (.cells (xs ++ rest).toArray 3 (0, 0)) + F) rfl (.tmp 5) (.tmp 6) 51 rfl 3 i0 _ 1 8 Try.underlying51 hi hz0 hz1 hz2 rfl (by decide) (.slice (some ⟨w.heap.size, 0, none⟩) 0 0) 0 [] _ rfl (RowAt.mk 3 1 w.heap.size 0 0 [] [] rfl (by decide) (by decide) rfl) ⟨g, 0, none⟩ n cap xs rfl hx H1.out hpos HB.out.1 HB.out.2 h2 hnews ?_))
      intro g2 cap2 w2 S2 r1 r2
      go_wp2_with fail
      go_ret
      exact ⟨_, S2, rfl, r1, r2⟩

end Go.Proofs.Ythifeaigdobonaa
