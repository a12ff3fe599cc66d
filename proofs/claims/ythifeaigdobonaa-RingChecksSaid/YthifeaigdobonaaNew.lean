/- The deque's machine is made: may, memory.New, machine.New, deque.New. -/
import Derived.Test.YthifeaigdobonaaCln
import Derived.Test.YthifeaigdobonaaPrl
namespace Go.Proofs.Ythifeaigdobonaa
open Go.RowKit

def okD (th room : Int) : Prop := 1 ≤ th ∧ th ≤ 16 ∧ 1 ≤ room ∧ room ≤ 256
instance (th room : Int) : Decidable (okD th room) := by unfold okD; exact inferInstance
def dqV (th room : Int) : Value := .agg #[.int .i64 th, .int .i64 room]

section
variable (W w : World) (th room : Int) (S : Hp)

theorem may_at (h : Holds W w S) : Calls Try.prog 50 #[dqV th room] w fun e w' => e = .returned (.bool (decide (okD th room))) ∧ Holds W w' S := by
  unfold dqV
  by_cases h1 : 1 ≤ th
  · by_cases h2 : th ≤ 16
    · by_cases h3 : 1 ≤ room
      · by_cases h4 : room ≤ 256
        · go_enter Try.func50, Try.ntmps50
          go_wp2_with fail
          go_ret
          exact ⟨by simp [okD, h1, h2, h3, h4], (h.alloc _).right⟩
        · go_enter Try.func50, Try.ntmps50
          go_wp2_with fail
          go_ret
          exact ⟨by rw [decide_eq_false (by unfold okD; omega)]; rfl, (h.alloc _).right⟩
      · go_enter Try.func50, Try.ntmps50
        go_wp2_with fail
        go_ret
        exact ⟨by rw [decide_eq_false (by unfold okD; omega)]; rfl, (h.alloc _).right⟩
    · go_enter Try.func50, Try.ntmps50
      go_wp2_with fail
      go_ret
      exact ⟨by rw [decide_eq_false (by unfold okD; omega)]; rfl, (h.alloc _).right⟩
  · go_enter Try.func50, Try.ntmps50
    go_wp2_with fail
    go_ret
    exact ⟨by rw [decide_eq_false (by unfold okD; omega)]; rfl, (h.alloc _).right⟩

theorem memory_new (F : Hp) (words : List Int) (v : Value) (hn : words.length ≤ 8192) (hrow : RowAt 82 1 v words.length (u64s words) S) (h : Holds W w (S + F)) :
    Calls Try.prog 80 #[v] w fun e w' => ∃ bm Sm, e = .returned (.tuple #[.pointer (some ⟨bm, 0, none⟩), .int .i64 0]) ∧ MemR bm words [] 0 Sm ∧ Holds W w' (Sm + F) := by
  obtain ⟨a, cap, rfl⟩ := hrow.form
  have hle : (words.length : Int) ≤ 8192 := by omega
  go_enter Try.func80, Try.ntmps80
  go_wp2_with fail
  refine (clone_u64 W w _ words.length (u64s words) S F (by omega) (fun u hu => by simp only [u64s, List.mem_map] at hu; obtain ⟨x, _, rfl⟩ := hu; rfl) hrow h).mono ?_
  rintro e w2 ⟨v', S', rfl, hr', h2⟩
  obtain ⟨a', cap', rfl⟩ := hr'.form
  go_wp2_with fail
  go_ret2
  refine ⟨w2.heap.size, _, rfl, ⟨[], rfl, _, .slice none 0 0, .slice none 0 0, S', emp, emp, hr', RowAt.nil _ _, RowAt.nil _ _, rfl⟩, ?_⟩
  have h3 := h2.new w2.heap.size rfl (.cells #[.slice a' words.length cap', .slice none 0 0, .slice none 0 0, .int .i64 0] 176 (0, 0))
  exact (h3.of_eq (show _ = pt w2.heap.size (.cells #[.slice a' words.length cap', .slice none 0 0, .slice none 0 0, .int .i64 0] 176 (0, 0)) + (S' + (emp + emp)) + F + S from by rw [Hp.add_emp, Hp.add_emp]; ac_rfl)).left

def seat0 : ASeat := { task := .nilIface, ready := false, last := -1, ak := 0, av := 0 }
theorem infoSeat : (Try.prog.info? 137).map (fun i => (i.zero, i.size, i.bytes)) = some (some (.agg #[.nilIface, .bool false, .int .i64 0, .int .i64 0, .int .i64 0]), 5, 48) := by kernel_rfl

/-- Behind k rounds of machine.New's loop. -/
def MNew (W : World) (bM bm : Nat) (kit : Value) (F : Hp) (k : Nat) (wr : World) : Prop :=
  ∃ sv Ss, RowAt 137 5 sv k (rows encSeat (List.replicate k seat0)) Ss ∧ Holds W wr (pt bM (machO bm 0 0 nilp nilp false (.slice none 0 0) kit sv 0 (.slice none 0 0)) + (Ss + F))

set_option maxHeartbeats 1000000 in
set_option maxRecDepth 100000 in
theorem machine_new (F : Hp) (n : Nat) (h1 : 1 ≤ n) (h2 : n ≤ 16) (words : List Int) (v : Value) (kb : Nat) (hn : words.length ≤ 8192) (hrow : RowAt 82 1 v words.length (u64s words) S) (h : Holds W w (S + F)) :
    Calls Try.prog 54 #[.int .i64 (n : Int), v, .map (some kb)] w fun e w' => ∃ bM bm S', e = .returned (.tuple #[.pointer (some ⟨bM, 0, none⟩), .int .i64 0]) ∧ MachAt bM bm (.map (some kb)) words [] 0 [] (List.replicate n seat0) S' ∧ Holds W w' (S' + F) := by
  obtain ⟨i0, hi, hz0, hz1, hz2⟩ := info_parts infoSeat
  have HR := Lib.hid hrow
  have HH := Lib.hid h
  clear hrow h
  go_enter Try.func54, Try.ntmps54
  go_wp2_with fail
  refine (memory_new W w S F words v hn HR.out HH.out).mono ?_
  rintro e w2 ⟨bm, Sm, rfl, hm, h3⟩
  have h4 : MNew W w2.heap.size bm (.map (some kb)) (Sm + F) 0 (w2.alloc (machO bm 0 0 nilp nilp false (.slice none 0 0) (.map (some kb)) (.slice none 0 0) 0 (.slice none 0 0))) :=
    ⟨.slice none 0 0, emp, RowAt.nil _ _, (h3.new w2.heap.size rfl _).of_eq (by rw [Hp.emp_add])⟩
  have HM := Lib.hid hm
  unfold machO nilp at h4
  clear h3 hm HR HH
  go_wp2_with fail
  go_loopw [31] (fun i wr => ∃ k : Nat, k ≤ n ∧ i = .int .i64 k ∧ MNew W w2.heap.size bm (.map (some kb)) (Sm + F) k wr) (fun i _ => n - (intOf i).toNat)
  case atStart => exact ⟨0, Nat.zero_le _, rfl, h4⟩
  case round =>
    obtain ⟨k, hk, rfl, sv, Ss, hr, h5⟩ := hrel
    clear h4
    have h6 := h5
    unfold machO at h6
    by_cases hlt : k < n
    · have c8 : wr.cell? ⟨w2.heap.size, 8, none⟩ = some sv := by rw [h6.cell]; rfl
      have hb := h6.lt
      have H5 := Lib.hid h5
      clear h6 h5
      go_wp2_with (at_builtin; go_must (refine wpList_append_one (W := W) (F := pt w2.heap.size (machO bm 0 0 nilp nilp false (.slice none 0 0) (.map (some kb)) sv 0 (.slice none 0 0)) + (Sm + F)) rfl (.tmp 37) (.tmp 39) 132 rfl 137 i0 _ 5 48 Try.underlying132 hi hz0 hz1 hz2 rfl (by decide) sv k (rows encSeat (List.replicate k seat0)) Ss rfl hr wr.heap.size 1 137 (encSeat seat0) rfl rfl (by simp [encSeat, seat0, Value.oneCell']) ?b1 ?b2 ((H5.out.new wr.heap.size rfl (.cells (encSeat seat0).toArray 137 (0, 0))).of_eq (by ac_rfl)) ?k))
      case b1 => unfold maxLen; omega
      case b2 => omega
      case k =>
        intro g cap w3 S3 r1 r2
        have h7 := r2.of_eq (show _ = pt w2.heap.size (machO bm 0 0 nilp nilp false (.slice none 0 0) (.map (some kb)) sv 0 (.slice none 0 0)) + (S3 + (Sm + F)) from by ac_rfl)
        have h8 := h7
        unfold machO at h8
        have k8 : w3.cell? ⟨w2.heap.size, 8, none⟩ = some sv := by rw [h8.cell]; rfl
        have f8 := h8.free 8
        have e1 : rows encSeat (List.replicate (k + 1) seat0) = rows encSeat (List.replicate k seat0) ++ encSeat seat0 := by rw [List.replicate_succ']; simp [rows]
        rw [← e1] at r1
        have R1 := Lib.hid r1
        have H8 := Lib.hid h8
        clear r1 r2 h7 h8 e1 c8 H5 hr
        go_wp2_with fail
        go_roundw
        case rel => exact ⟨k + 1, by omega, by go_num, _, S3, R1.out, H8.out.set 8 _⟩
        case measure => simp [intOf]; omega
    · have : k = n := by omega
      subst this
      clear h6
      go_wp2_with fail
      go_ret2
      refine ⟨w2.heap.size, bm, _, rfl, ⟨0, 0, 0, false, _, _, _, _, _, RowAt.nil _ _, by rw [List.length_replicate]; exact hr, HM.out, rfl⟩, ?_⟩
      exact h5.of_eq (by rw [Hp.emp_add]; ac_rfl)
end

end Go.Proofs.Ythifeaigdobonaa
