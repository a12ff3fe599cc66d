/- The reference's machine of the deque: New. The reference's machine of the deque: Told, the run so far in memory of its own. The reference's Play of a deque: a script's run; the two refusals; the program's Play's refusals. -/
import Derived.Test.YthifeaigdobonaaRfo
import Derived.Test.YthifeaigdobonaaDqn
import Derived.Test.YthifeaigdobonaaAla
namespace Go.Proofs.Ythifeaigdobonaa
open Go.RowKit

theorem made_int (n : Nat) : madeCells (Value.int .i64 0).cells (n * 1) = (ints (List.replicate n 0)).toArray := by
  unfold madeCells ints
  apply Array.ext
  · simp
  · intro i h1 h2
    simp [Value.cells, Nat.mod_one]

theorem make_ints (n : Nat) (h : n ≤ 1000) (w : World) : (Instr.makeSlice 51 (.int .i64 (n : Int)) (.int .i64 (n : Int))).run Try.prog w =
    .ok (.slice (some ⟨w.heap.size, 0, none⟩) n n) (w.alloc (.cells (ints (List.replicate n 0)).toArray 3 (0, 0))) := by
  obtain ⟨i0, hi, hz0, hz1, hz2⟩ := info_parts infoInt
  have := run_makeSlice (P := Try.prog) (w := w) 51 3 i0 (.int .i64 0) Try.underlying51 hi hz0 .i64 .i64 n n (by omega) (by omega) (by rw [hz1]; omega) (by rw [hz2]; omega) (by omega)
  rw [hz1, Int.toNat_natCast, made_int] at this
  exact this

theorem infoTh : (Try.prog.info? 50).map (fun i => (i.zero, i.size, i.bytes)) = some (some (.agg #[.int .i64 0, .int .i64 0, .int .i64 0, .int .i64 0, .int .i64 0]), 5, 40) := by kernel_rfl

/-- The machine's block while New's loop runs. -/
def refN (n room : Int) (wv sv : Value) : Obj :=
  .cells #[.int .i64 n, .int .i64 room, wv, sv, .slice none 0 0, .slice none 0 0, .int .i64 0, .int .i64 (-1), .int .i64 0] 54 (0, 0)
def RNew (W : World) (bM : Nat) (n room : Int) (wv : Value) (F : Hp) (k : Nat) (wr : World) : Prop :=
  ∃ sv Ss, RowAt 50 5 sv k (rows encTh (List.replicate k DM.noTh)) Ss ∧ Holds W wr (pt bM (refN n room wv sv) + (Ss + F))

set_option maxHeartbeats 1000000 in
set_option maxRecDepth 100000 in
theorem ref_new (W w : World) (n room : Nat) (S : Hp) (hok : okD n room) (h : Holds W w S) :
    Calls Try.prog 18 #[dqV n room] w fun e w' => ∃ p S', e = .returned (rptr p) ∧ RefAt p (DM.init n room) S' ∧ Holds W w' (S' + S) := by
  obtain ⟨i0, hi, hz0, hz1, hz2⟩ := info_parts infoTh
  have hn : n ≤ 16 := by unfold okD at hok; omega
  have hn1 : 1 ≤ n := by unfold okD at hok; omega
  have hr : room ≤ 256 := by unfold okD at hok; omega
  unfold dqV
  have h1 := h.new w.heap.size rfl (.cells #[.int .i64 (n : Int), .int .i64 (room : Int)] 23 (0, 0))
  clear h hok
  go_enter Try.func18, Try.ntmps18
  go_upto_region 1 with fail
  generalize w.alloc (.cells #[.int .i64 (n : Int), .int .i64 (room : Int)] 23 (0, 0)) = w1 at h1 ⊢
  have c0 : w1.cell? ⟨w.heap.size, 0, none⟩ = some (.int .i64 (n : Int)) := by rw [h1.cell]; rfl
  have c1 : w1.cell? ⟨w.heap.size, 1, none⟩ = some (.int .i64 (room : Int)) := by rw [h1.cell]; rfl
  have hw : IntKind.i64.wrap (2 + (room : Int)) = 2 + (room : Int) := IntWalk.i64_in _ (by omega)
  have hmk : ∀ w, (Instr.makeSlice 51 (.int .i64 (2 + (room : Int))) (.int .i64 (2 + (room : Int)))).run Try.prog w = .ok (.slice (some ⟨w.heap.size, 0, none⟩) (2 + room) (2 + room)) (w.alloc (.cells (ints (List.replicate (2 + room) 0)).toArray 3 (0, 0))) :=
    make_ints (2 + room) (by omega)
  have hrow : RowAt 3 1 (.slice (some ⟨w1.heap.size, 0, none⟩) (2 + room) (2 + room)) (2 + room) (ints (List.replicate (2 + room) 0)) (pt w1.heap.size (.cells (ints (List.replicate (2 + room) 0)).toArray 3 (0, 0))) := by
    have := RowAt.mk 3 1 w1.heap.size (2 + room) (2 + room) (ints (List.replicate (2 + room) 0)) [] (by simp [ints]) (Nat.le_refl _) (by unfold maxLen; omega) (by simp [ints])
    rw [List.append_nil] at this
    exact this
  have HR := Lib.hid hrow
  have hlt : w.heap.size < w1.heap.size := h1.lt
  have k0 : (w1.alloc (.cells (ints (List.replicate (2 + room) 0)).toArray 3 (0, 0))).cell? ⟨w.heap.size, 0, none⟩ = some (.int .i64 (n : Int)) := by rw [(h1.alloc _).right.cell]; rfl
  have k1 : (w1.alloc (.cells (ints (List.replicate (2 + room) 0)).toArray 3 (0, 0))).cell? ⟨w.heap.size, 1, none⟩ = some (.int .i64 (room : Int)) := by rw [(h1.alloc _).right.cell]; rfl
  have H3 := Lib.hid ((h1.new w1.heap.size rfl (.cells (ints (List.replicate (2 + room) 0)).toArray 3 (0, 0))).new (w1.heap.size + 1) (by simp) (refN n room (.slice (some ⟨w1.heap.size, 0, none⟩) (2 + room) (2 + room)) (.slice none 0 0))).drew
  clear hrow h1
  obtain ⟨wv, hwv⟩ : ∃ wv, wv = Value.slice (some ⟨w1.heap.size, 0, none⟩) (2 + room) (2 + room) := ⟨_, rfl⟩
  obtain ⟨Sw, hSw⟩ : ∃ Sw, Sw = pt w1.heap.size (.cells (ints (List.replicate (2 + room) 0)).toArray 3 (0, 0)) := ⟨_, rfl⟩
  have hrow' : RowAt 3 1 wv (2 + room) (ints (List.replicate (2 + room) 0)) Sw := by rw [hwv, hSw]; exact HR.out
  have HRW := Lib.hid hrow'
  have H4 : Hid (Holds W ((w1.alloc (.cells (ints (List.replicate (2 + room) 0)).toArray 3 (0, 0))).alloc (refN n room (.slice (some ⟨w1.heap.size, 0, none⟩) (2 + room) (2 + room)) (.slice none 0 0))).drew (pt (w1.heap.size + 1) (refN n room wv (.slice none 0 0)) + (emp + (Sw + (pt w.heap.size (.cells #[.int .i64 (n : Int), .int .i64 (room : Int)] 23 (0, 0)) + S))))) := by
    rw [hwv, hSw, Hp.emp_add]; exact H3.out
  clear hrow' H3 HR hwv hSw
  unfold refN at H4
  go_cut [3] from 5 to 11 (fun a wx => a = .pointer (some ⟨w1.heap.size + 1, 0, none⟩) ∧ Holds W wx (pt (w1.heap.size + 1) (refN n room wv (.slice none 0 0)) + (emp + (Sw + (pt w.heap.size (.cells #[.int .i64 (n : Int), .int .i64 (room : Int)] 23 (0, 0)) + S)))))
  case first =>
    go_region_law (fail)
    all_goals
      go_wp2_with fail
      go_meet
      exact ⟨rfl, H4.out⟩
  case rest =>
    obtain ⟨rfl, h5⟩ := hcut
    clear H4 hw hmk c0 c1 k0 k1
    generalize w1.heap.size + 1 = bM at *
    clear hlt
    obtain ⟨D, hD⟩ : ∃ D, pt w.heap.size (.cells #[.int .i64 (n : Int), .int .i64 (room : Int)] 23 (0, 0)) = D := ⟨_, rfl⟩
    obtain ⟨G, hG⟩ : ∃ G, Sw + (D + S) = G := ⟨_, rfl⟩
    rw [hD, hG] at h5
    have H5 := Lib.hid h5
    have HD := Lib.hid hD
    have HG := Lib.hid hG
    clear h5 hD hG
    go_wp2_with fail
    go_loopw [4] (fun i wr => ∃ k : Nat, k ≤ n ∧ i = .int .i64 k ∧ RNew W bM n room wv G k wr) (fun i _ => n - (intOf i).toNat)
    case atStart => exact ⟨0, Nat.zero_le _, rfl, .slice none 0 0, emp, RowAt.nil _ _, H5.out⟩
    case round =>
      obtain ⟨k, hk, rfl, sv, Ss, hr, h6⟩ := hrel
      clear H5
      have c0 : wr.cell? ⟨w.heap.size, 0, none⟩ = some (.int .i64 (n : Int)) := by
        have h7 := h6
        rw [← HG.out, ← HD.out] at h7
        rw [(h7.of_eq (show _ = pt w.heap.size (.cells #[.int .i64 (n : Int), .int .i64 (room : Int)] 23 (0, 0)) + (pt bM (refN n room wv sv) + (Ss + (Sw + S))) by ac_rfl)).cell]; rfl
      by_cases hlt : k < n
      · have h7 := h6
        unfold refN at h7
        have c3 : wr.cell? ⟨bM, 3, none⟩ = some sv := by rw [h7.cell]; rfl
        have hb := h7.lt
        have H6 := Lib.hid h6
        clear h6 h7
        go_wp2_with (at_builtin; go_must (refine wpList_append_one (W := W) (F := pt bM (refN n room wv sv) + G) rfl (.tmp 22) (.tmp 24) 52 rfl 50 i0 _ 5 40 Try.underlying52 hi hz0 hz1 hz2 rfl (by decide) sv k (rows encTh (List.replicate k DM.noTh)) Ss rfl hr wr.heap.size 1 50 (encTh DM.noTh) rfl rfl (by simp [encTh, DM.noTh, Value.oneCell']) ?b1 ?b2 ((H6.out.new wr.heap.size rfl (.cells (encTh DM.noTh).toArray 50 (0, 0))).of_eq (by ac_rfl)) ?k))
        case b1 => unfold maxLen; omega
        case b2 => omega
        case k =>
          intro g cap w3 S3 r1 r2
          have h7 := r2.of_eq (show _ = pt bM (refN n room wv sv) + (S3 + G) from by ac_rfl)
          have h8 := h7
          unfold refN at h8
          have k3 : w3.cell? ⟨bM, 3, none⟩ = some sv := by rw [h8.cell]; rfl
          have f3 := h8.free 3
          have e1 : rows encTh (List.replicate (k + 1) DM.noTh) = rows encTh (List.replicate k DM.noTh) ++ encTh DM.noTh := by rw [List.replicate_succ']; simp [rows]
          rw [← e1] at r1
          have R1 := Lib.hid r1
          have H8 := Lib.hid h8
          clear r1 r2 h7 h8 e1 c3 H6 hr
          go_wp2_with fail
          go_roundw
          case rel => exact ⟨k + 1, by omega, by go_num, _, S3, R1.out, H8.out.set 3 _⟩
          case measure => simp [intOf]; omega
      · have : k = n := by omega
        subst this
        have HRW2 := Lib.hid hr
        have H6 := Lib.hid h6
        clear hr h6
        go_wp2_with fail
        go_ret
        obtain ⟨g, cap, rest, rfl, q1, q2, q3, rfl⟩ := HRW2.out.some (by omega)
        have h7 := H6.out
        rw [← HG.out] at h7
        refine ⟨⟨bM, g, cap, rest⟩, _, rfl, ⟨wv, .slice none 0 0, .slice none 0 0, Sw, emp, emp, ?_, RowAt.nil _ _, RowAt.nil _ _, rfl⟩, ?_⟩
        · have := HRW.out
          show RowAt _ 1 wv (List.replicate (2 + room) (0 : Int)).length (ints (List.replicate (2 + room) 0)) Sw
          rw [List.length_replicate]; exact this
        · have e : (DM.init k room).all.length = k := by simp [DM.init]
          refine ((h7.of_eq (show _ = pt bM (refN k room wv (.slice (some ⟨g, 0, none⟩) k cap)) + (pt g (.cells (rows encTh (List.replicate k DM.noTh) ++ rest).toArray 50 (0, 0)) + Sw) + S + D by ac_rfl)).left).of_eq ?_
          rw [e]
          simp only [Hp.add_emp]
          rfl

end Go.Proofs.Ythifeaigdobonaa

namespace Go.Proofs.Ythifeaigdobonaa
open Go.RowKit

def toldO (cv tv wv : Value) : Obj := .cells #[cv, tv, .slice none 0 0, wv] 33 (0, 0)

theorem encAcc_one (l : List Acc) : ∀ u ∈ rows encAcc l, u.oneCell' = true := by
  intro u hu
  unfold rows at hu
  rw [List.mem_flatMap] at hu
  obtain ⟨a, _, hu⟩ := hu
  simp [encAcc] at hu
  rcases hu with rfl | rfl | rfl | rfl | rfl | rfl | rfl <;> rfl
theorem u64s_take (l : List Int) {k : Nat} (hk : k < l.length) : u64s ((l.map un).take (k + 1)) = u64s ((l.map un).take k) ++ [.int .u64 (un (wd l k))] := by
  have e : (l.map un).take (k + 1) = (l.map un).take k ++ [un (wd l k)] := by
    rw [List.take_add_one, List.getElem?_map]
    unfold wd
    rw [List.getElem?_eq_getElem hk]
    rfl
  rw [e]; simp [u64s]

set_option maxHeartbeats 2000000 in
set_option maxRecDepth 100000 in
theorem ref_told (W w : World) (p : RSpot) (m : DM) (S F : Hp) (hi : m.Inv) (hS : RefAt p m S) (h : Holds W w (S + F)) :
    Calls Try.prog 23 #[rptr p] w fun e w' => ∃ v S', e = .returned v ∧ RunAt v m.calls m.trace (m.words.map un) S' ∧ Holds W w' (S' + (S + F)) := by
  have hmv := hi.mv
  have hnc := hi.ncalls
  have hnt := hi.ntrace
  have hwl := hi.len
  have hro := hi.room
  obtain ⟨ic, hic, hzc0, hzc1, hzc2⟩ := info_parts infoCall
  obtain ⟨ia, hia, hza0, hza1, hza2⟩ := info_parts infoAcc
  obtain ⟨iw, hiw, hzw0, hzw1, hzw2⟩ := info_parts infoU64
  -- the machine, as any world holds it
  obtain ⟨wv, cv, tv, Sw, Sc, St, q1, q2, q3, hSe⟩ := hS
  obtain ⟨wa, wc, rfl⟩ := q1.form
  obtain ⟨ca, cc, rfl⟩ := q2.form
  obtain ⟨ta, tc, rfl⟩ := q3.form
  have look : ∀ (wr : World) (G : Hp), Holds W wr (S + G) → wr.cell? ⟨p.br, 2, none⟩ = some (.slice wa m.words.length wc) ∧ wr.cell? ⟨p.br, 4, none⟩ = some (.slice ca m.calls.length cc) ∧ wr.cell? ⟨p.br, 5, none⟩ = some (.slice ta m.trace.length tc) := by
    intro wr G k
    rw [hSe] at k
    have k1 := k.of_eq (Hp.add_assoc _ _ _)
    unfold refO at k1
    refine ⟨?_, ?_, ?_⟩ <;> (rw [k1.cell]; rfl)
  have srcC : ∀ (wr : World) (G : Hp), Holds W wr (S + G) → (ca = none → m.calls.length = 0 ∧ cc = 0) ∧ (0 < m.calls.length → ∃ ad, ca = some ad ∧ ∀ j u, (rows encCall m.calls)[j]? = some u → wr.cell? (ad.add j) = some u) := by
    intro wr G k
    rw [hSe] at k
    exact (row_src q2 (k.of_eq (show _ = Sc + (pt p.br _ + (pt p.ga _ + (Sw + St)) + G) from by ac_rfl))).2
  have srcT : ∀ (wr : World) (G : Hp), Holds W wr (S + G) → (ta = none → m.trace.length = 0 ∧ tc = 0) ∧ (0 < m.trace.length → ∃ ad, ta = some ad ∧ ∀ j u, (rows encAcc m.trace)[j]? = some u → wr.cell? (ad.add j) = some u) := by
    intro wr G k
    rw [hSe] at k
    exact (row_src q3 (k.of_eq (show _ = St + (pt p.br _ + (pt p.ga _ + (Sw + Sc)) + G) from by ac_rfl))).2
  obtain ⟨g, rest, hga, _, hSw, _⟩ := int_row q1 (by omega)
  have word : ∀ (wr : World) (G : Hp), Holds W wr (S + G) → ∀ i, i < m.words.length → wr.cell? ⟨g, i, none⟩ = some (.int .i64 (wd m.words i)) := by
    intro wr G k i hi
    rw [hSe, hSw] at k
    rw [(k.of_eq (show _ = pt g (.cells (ints m.words ++ rest).toArray 3 (0, 0)) + (pt p.br _ + (pt p.ga _ + (Sc + St)) + G) from by ac_rfl)).cell]
    simp [ints, List.getElem?_append, hi, wd]
  have hwb : 3 ≤ m.words.length ∧ m.words.length ≤ 258 := by omega
  clear hwl hro
  have LK := Lib.hid look
  have SC := Lib.hid srcC
  have STr := Lib.hid srcT
  have WD := Lib.hid word
  have lC : (rows encCall m.calls).length = m.calls.length * 9 := rows_length encCall_len _
  have lT : (rows encAcc m.trace).length = m.trace.length * 7 := rows_length (enc := encAcc) (sz := 7) (fun _ => rfl) _
  have h1 := ((h.new w.heap.size rfl (toldO (.slice none 0 0) (.slice none 0 0) (.slice none 0 0))).new (w.heap.size + 1) (by simp) (toldO (.slice none 0 0) (.slice none 0 0) (.slice none 0 0)))
  have H1 := Lib.hid h1
  have LC := Lib.hid lC
  have LT := Lib.hid lT
  clear look srcC srcT word h h1 q1 q2 q3 hSe hSw lC lT
  subst hga
  unfold toldO at H1
  unfold rptr
  go_enter Try.func23, Try.ntmps23
  go_upto_region 2 with fail
  generalize (w.alloc (Obj.cells #[Value.slice none 0 0, Value.slice none 0 0, Value.slice none 0 0, Value.slice none 0 0] 33)).alloc (Obj.cells #[Value.slice none 0 0, Value.slice none 0 0, Value.slice none 0 0, Value.slice none 0 0] 33) = w1 at H1 ⊢
  obtain ⟨B, hB⟩ : ∃ B, B = w.heap.size + 1 := ⟨_, rfl⟩
  obtain ⟨R0, hR0⟩ : ∃ R0, R0 = pt w.heap.size (toldO (.slice none 0 0) (.slice none 0 0) (.slice none 0 0)) := ⟨_, rfl⟩
  obtain ⟨nl, hnl⟩ : ∃ nl, nl = Value.slice none 0 0 := ⟨_, rfl⟩
  have H2 : Hid (Holds W w1 (pt B (toldO nl nl nl) + (R0 + (S + F)))) := by rw [hB, hR0, hnl]; exact H1.out
  have HR0 := Lib.hid hR0
  rw [← hB]
  clear hB hR0 H1
  obtain ⟨_, l4, _⟩ := LK.out w1 (R0 + F + pt B (toldO nl nl nl)) (H2.out.of_eq (by ac_rfl))
  have b0 : w1.cell? ⟨B, 0, none⟩ = some (.slice none 0 0) := by have := H2.out; unfold toldO at this; rw [this.cell, ← hnl]; rfl
  have HD : Hid (Holds W w1.drew (emp + (pt B (toldO nl nl nl) + (R0 + (S + F))))) := (H2.out.drew).of_eq (by rw [Hp.emp_add])
  have SRC := Lib.hid (SC.out w1.drew (R0 + F + pt B (toldO nl nl nl)) (HD.out.of_eq (by rw [Hp.emp_add]; ac_rfl)))
  go_cut [] from 5 to 12 (fun wx => ∃ cv Sc', RowAt 66 9 cv m.calls.length (rows encCall m.calls) Sc' ∧ Holds W wx (pt B (toldO cv nl nl) + (R0 + (S + (Sc' + F)))))
  case first =>
    go_region_law (refine step_append_flow (W := W) (F := pt B (toldO nl nl nl) + (R0 + (S + F))) rfl (.tmp 6) (.tmp 10) 28 rfl 66 ic _ 9 72 Try.underlying28 hic hzc0 hzc1 hzc2 rfl (by decide) (.slice none 0 0) 0 [] emp rfl (RowAt.nil _ _) HD.out ca m.calls.length cc (rows encCall m.calls) rfl LC.out SRC.out.1 SRC.out.2 (encCall_one _) (by unfold maxLen; omega) (by omega) ?_; intro A2 cap w2 S2 r1 r2; have k2 := r2.of_eq (show _ = pt B (toldO nl nl nl) + (S2 + (R0 + (S + F))) from by ac_rfl); have b2 : w2.cell? ⟨B, 0, none⟩ = some (.slice none 0 0) := by {unfold toldO at k2; rw [k2.cell, ← hnl]; rfl}; have f2 := k2.free 0; have R1 := Lib.hid r1; have K2 := Lib.hid k2; clear r1 r2 k2)
    all_goals
      go_wp2_with fail
      go_meet
      refine ⟨_, S2, by have := R1.out; simpa using this, (K2.out.set 0 _).of_eq ?_⟩
      rw [show ∀ v, pt B (.cells ((#[nl, nl, .slice none 0 0, nl] : Array Value).setIfInBounds 0 v) 33 (0, 0)) = pt B (toldO v nl nl) from fun v => by unfold toldO; simp]
      ac_rfl
  case rest =>
    obtain ⟨cv, Sc', hc1, h3⟩ := hcut
    have HC1 := Lib.hid hc1
    have H3 := Lib.hid h3
    clear l4 b0 HD SRC H2 hc1 h3
    go_wp2_with fail
    obtain ⟨_, _, l5⟩ := LK.out _ (R0 + (Sc' + F) + pt B (toldO cv nl nl)) (H3.out.of_eq (by ac_rfl))
    have b1 := H3.out.cell 1
    unfold toldO at b1
    simp only [hnl, List.getElem?_toArray, List.getElem?_cons_succ, List.getElem?_cons_zero] at b1
    have HD : Hid (Holds W wc.drew (emp + (pt B (toldO cv nl nl) + (R0 + (S + (Sc' + F)))))) := (H3.out.drew).of_eq (by rw [Hp.emp_add])
    have SRC := Lib.hid (STr.out wc.drew (R0 + (Sc' + F) + pt B (toldO cv nl nl)) (HD.out.of_eq (by rw [Hp.emp_add]; ac_rfl)))
    go_cut [] from 13 to 20 (fun wy => ∃ tv St', RowAt 103 7 tv m.trace.length (rows encAcc m.trace) St' ∧ Holds W wy (pt B (toldO cv tv nl) + (R0 + (S + (St' + (Sc' + F))))))
    case first =>
      go_region_law (refine step_append_flow (W := W) (F := pt B (toldO cv nl nl) + (R0 + (S + (Sc' + F)))) rfl (.tmp 14) (.tmp 18) 29 rfl 103 ia _ 7 56 Try.underlying29 hia hza0 hza1 hza2 rfl (by decide) (.slice none 0 0) 0 [] emp rfl (RowAt.nil _ _) HD.out ta m.trace.length tc (rows encAcc m.trace) rfl LT.out SRC.out.1 SRC.out.2 (encAcc_one _) (by unfold maxLen; omega) (by omega) ?_; intro A2 cap w2 S2 r1 r2; have k2 := r2.of_eq (show _ = pt B (toldO cv nl nl) + (S2 + (R0 + (S + (Sc' + F)))) from by ac_rfl); have b2 : w2.cell? ⟨B, 1, none⟩ = some (.slice none 0 0) := by {unfold toldO at k2; rw [k2.cell, ← hnl]; rfl}; have f2 := k2.free 1; have R1 := Lib.hid r1; have K2 := Lib.hid k2; clear r1 r2 k2)
      all_goals
        go_wp2_with fail
        go_meet
        refine ⟨_, S2, by have := R1.out; simpa using this, (K2.out.set 1 _).of_eq ?_⟩
        rw [show ∀ v, pt B (.cells ((#[cv, nl, .slice none 0 0, nl] : Array Value).setIfInBounds 1 v) 33 (0, 0)) = pt B (toldO cv v nl) from fun v => by unfold toldO; simp]
        ac_rfl
    case rest =>
      obtain ⟨tv, St', ht1, h4⟩ := hcut
      have HT1 := Lib.hid ht1
      have H4 := Lib.hid h4
      obtain ⟨G, hG⟩ : ∃ G, R0 + (S + (St' + (Sc' + F))) = G := ⟨_, rfl⟩
      rw [hG] at H4
      have HG := Lib.hid hG
      clear l5 b1 HD SRC H3 ht1 h4 hG
      go_wp2_with fail
      go_loopw [4] (fun i wr => ∃ k : Nat, k ≤ m.words.length ∧ i = .int .i64 k ∧ ∃ uv Su, RowAt 82 1 uv k (u64s ((m.words.map un).take k)) Su ∧ Holds W wr (pt B (toldO cv tv uv) + (Su + G))) (fun i _ => m.words.length - (intOf i).toNat)
      case atStart => exact ⟨0, Nat.zero_le _, rfl, nl, emp, by rw [hnl]; exact RowAt.nil _ _, H4.out.of_eq (by rw [Hp.emp_add])⟩
      case round =>
        obtain ⟨k, hk, rfl, uv, Su, hu, h5⟩ := hrel
        clear H4
        have h6 := h5
        rw [← HG.out] at h6
        obtain ⟨l2, _, _⟩ := LK.out _ (pt B (toldO cv tv uv) + (Su + (R0 + (St' + (Sc' + F))))) (h6.of_eq (by ac_rfl))
        by_cases hlt : k < m.words.length
        · have hw := WD.out _ (pt B (toldO cv tv uv) + (Su + (R0 + (St' + (Sc' + F))))) (h6.of_eq (by ac_rfl)) k hlt
          have b3 : wr.cell? ⟨B, 3, none⟩ = some uv := by unfold toldO at h5; rw [h5.cell]; rfl
          have lB : B < wr.heap.size := h5.lt
          have lp := World.block_lt_of_cell? wr _ l2
          have lg := World.block_lt_of_cell? wr _ hw
          obtain ⟨ua, uc, rfl⟩ := hu.form
          have HU := Lib.hid hu
          have H5 := Lib.hid (h5.of_eq (show _ = Su + (pt B (toldO cv tv (.slice ua k uc)) + G) by ac_rfl))
          have bk : (k : Int) < m.words.length := by omega
          clear hu h5 h6
          go_wp2_with fail
          have HB : Hid (Holds W (wr.alloc (.cells [Value.int .u64 (un (wd m.words k))].toArray 82 (0, 0))).drew _) := (H5.out.new wr.heap.size rfl (.cells [Value.int .u64 (un (wd m.words k))].toArray 82 (0, 0))).drew
          go_region_law (refine step_append_one (W := W) (F := pt B (toldO cv tv (.slice ua k uc)) + G) rfl (.tmp 31) (.tmp 40) 31 rfl 82 iw _ 1 8 Try.underlying31 hiw hzw0 hzw1 hzw2 rfl (by decide) (.slice ua k uc) k (u64s ((m.words.map un).take k)) Su rfl HU.out wr.heap.size 1 82 [Value.int .u64 (un (wd m.words k))] rfl rfl (by simp [Value.oneCell']) (by unfold maxLen; omega) (by omega) HB.out ?_; intro g2 cap w2 S2 r1 r2; have k2 := r2.of_eq (show _ = pt B (toldO cv tv (.slice ua k uc)) + (S2 + G) from by ac_rfl); have b2 : w2.cell? ⟨B, 3, none⟩ = some (.slice ua k uc) := by {unfold toldO at k2; rw [k2.cell]; rfl}; have f2 := k2.free 3; have R1 := Lib.hid r1; have K2 := Lib.hid k2; clear r1 r2 k2)
          all_goals
            go_wp2_with fail
            go_roundw
            case rel =>
              refine ⟨k + 1, by omega, by go_num, .slice (some ⟨g2, 0, none⟩) (k + 1) cap, S2, ?_, (K2.out.set 3 (.slice (some ⟨g2, 0, none⟩) (k + 1) cap)).of_eq ?_⟩
              · rw [u64s_take _ hlt]; exact R1.out
              · rw [show ∀ v, pt B (.cells ((#[cv, tv, .slice none 0 0, .slice ua k uc] : Array Value).setIfInBounds 3 v) 33 (0, 0)) = pt B (toldO cv tv v) from fun v => by unfold toldO; simp]
            case measure => simp [intOf]; omega
        · have hke : k = m.words.length := by omega
          obtain ⟨a1, n1, rfl⟩ := HC1.out.form
          obtain ⟨a2, n2, rfl⟩ := HT1.out.form
          obtain ⟨a3, n3, rfl⟩ := hu.form
          have hu2 : RowAt 82 1 (.slice a3 k n3) (m.words.map un).length (u64s (m.words.map un)) Su := by
            rw [List.length_map, ← hke]
            rw [List.take_of_length_le (by rw [List.length_map]; omega)] at hu
            exact hu
          have b0 := h5.cell 0
          have b1 := h5.cell 1
          have b2 := h5.cell 2
          have b3 := h5.cell 3
          unfold toldO at b0 b1 b2 b3
          simp only [List.getElem?_toArray, List.getElem?_cons_succ, List.getElem?_cons_zero] at b0 b1 b2 b3
          rw [HR0.out] at h6
          have h7 := h6.of_eq (show _ = pt w.heap.size (toldO (.slice none 0 0) (.slice none 0 0) (.slice none 0 0)) + (pt B (toldO (.slice a1 m.calls.length n1) (.slice a2 m.trace.length n2) (.slice a3 k n3)) + (Su + (S + (St' + (Sc' + F))))) by ac_rfl)
          have s0 := h7.cell 0
          have s1 := h7.cell 1
          have s2 := h7.cell 2
          have s3 := h7.cell 3
          unfold toldO at s0 s1 s2 s3
          simp only [List.getElem?_toArray, List.getElem?_cons_succ, List.getElem?_cons_zero] at s0 s1 s2 s3
          have t0 := h7.free 0
          have t1 := h7.free 1
          have t2 := h7.free 2
          have t3 := h7.free 3
          have HU := Lib.hid hu2
          have H7 := Lib.hid h7
          clear hu hu2 h5 h6 h7 hke
          go_wp2_with fail
          have H8 := ((((H7.out.set 0 (.slice a1 m.calls.length n1)).set 1 (.slice a2 m.trace.length n2)).set 2 (.slice none 0 0)).set 3 (.slice a3 k n3)).of_eq (show _ = pt w.heap.size (.cells #[.slice a1 m.calls.length n1, .slice a2 m.trace.length n2, .slice none 0 0, .slice a3 k n3] 33 (0, 0)) + (pt B (toldO (.slice a1 m.calls.length n1) (.slice a2 m.trace.length n2) (.slice a3 k n3)) + (Su + (S + (St' + (Sc' + F))))) from by unfold toldO; simp only [List.setIfInBounds_toArray, List.set_cons_zero, List.set_cons_succ])
          refine bodyPost_ret (v := .agg #[.slice a1 m.calls.length n1, .slice a2 m.trace.length n2, .slice none 0 0, .slice a3 k n3]) ?_ rfl ?_
          · exact results_cell_row rfl _ _ w.heap.size 33 _ (0, 0) _ rfl H8.at Try.underlying33 rfl (by kernel_rfl)
          · exact ⟨_, _, rfl, ⟨_, _, _, Sc', St', Su, rfl, HC1.out, HT1.out, HU.out, rfl⟩, ((H8.right.right).of_eq (by ac_rfl))⟩

end Go.Proofs.Ythifeaigdobonaa

namespace Go.Proofs.Ythifeaigdobonaa
open Go.RowKit

def RPlays (W : World) (p : RSpot) (m : DM) (F : Hp) (wr : World) : Prop := m.Inv ∧ ∃ S, RefAt p m S ∧ Holds W wr (S + F)
theorem RPlays.holds {W : World} {p : RSpot} {m : DM} {F : Hp} {wr : World} (h : RPlays W p m F wr) : Holds W wr F := by
  obtain ⟨_, S, _, h2⟩ := h
  exact h2.right

theorem ref_made (W w : World) (n room : Nat) (S : Hp) (hok : okD n room) (h : Holds W w S) :
    Calls Try.prog 18 #[dqV n room] w fun e w' => ∃ p : RSpot, e = .returned (rptr p) ∧ RPlays W p (DM.init n room) S w' := by
  have hi : (DM.init n room).Inv := DM.Inv.start n room (by unfold okD at hok; omega) (by unfold okD at hok; omega) (by unfold okD at hok; omega) (by unfold okD at hok; omega)
  exact (ref_new W w n room S hok h).mono fun _ _ ⟨p, S', he, h1, h2⟩ => ⟨p, he, hi, S', h1, h2⟩

theorem ref_moves (W w : World) (p : RSpot) {m : DM} {F : Hp} (v : DM.Mv) (harg : I64 v.arg) (h : RPlays W p m F w) :
    Calls Try.prog 20 #[rptr p, mvArg v] w fun e w' => e = .returned (.bool (m.move v).2) ∧ RPlays W p (m.move v).1 F w' := by
  obtain ⟨hi, S, hS, h⟩ := h
  exact (ref_mv W w p m S F v hi hS h).mono fun e w' ⟨he, S', h1, h2⟩ => ⟨he, hi.moved v harg, S', h1, h2⟩

theorem ref_runs (W w : World) (p : RSpot) {m : DM} {F : Hp} (h : RPlays W p m F w) :
    Calls Try.prog 23 #[rptr p] w fun e w' => ∃ v S', e = .returned v ∧ RunAt v m.calls m.trace (m.words.map un) S' ∧ RPlays W p m (S' + F) w' := by
  obtain ⟨hi, S, hS, h⟩ := h
  refine (ref_told W w p m S F hi hS h).mono ?_
  rintro e w' ⟨v, S', rfl, h1, h2⟩
  exact ⟨v, S', rfl, h1, hi, S, hS, h2.of_eq (by ac_rfl)⟩

theorem RunAt.zero : RunAt (.agg #[.slice none 0 0, .slice none 0 0, .slice none 0 0, .slice none 0 0]) [] [] [] emp :=
  ⟨_, _, _, emp, emp, emp, rfl, RowAt.nil _ _, RowAt.nil _ _, RowAt.nil _ _, by simp only [Hp.add_emp]⟩

set_option maxHeartbeats 1000000 in
set_option maxRecDepth 100000 in
theorem refplay_ok (w : World) (n room : Nat) (hok : okD n room) (a : Option Addr) (len cap : Nat) (mvs : List DM.Mv) (hm : MovesIn w a len mvs) (hl : mvs.length ≤ 65536) :
    Calls Try.prog 13 #[dqV n room, .slice a len cap] w fun e w' => ∃ v S', e = .returned (.tuple #[v, .int .i64 0]) ∧
      RunAt v ((DM.init n room).runs mvs).calls ((DM.init n room).runs mvs).trace (((DM.init n room).runs mvs).words.map un) S' ∧ Holds w w' S' := by
  have hlen : len = mvs.length := hm.1
  have hle : (len : Int) ≤ 65536 := by omega
  have h1 := ((Holds.self w).new w.heap.size rfl (.cells #[.int .i64 (n : Int), .int .i64 (room : Int)] 23 (0, 0))).new (w.heap.size + 1) (by simp) run0
  unfold run0 at h1
  have HM := Lib.hid hm
  have HL := Lib.hid hlen
  have HO := Lib.hid hok
  have H1 := Lib.hid h1
  clear hm hlen hok h1
  unfold dqV
  go_enter Try.func13, Try.ntmps13
  go_wp2_with fail
  refine (check_at _ n room).mono ?_
  rintro e w1 ⟨rfl, hb⟩
  rw [decide_eq_true HO.out]
  have h2 := H1.out.of_below hb
  have c0 := h2.right.cell 0
  have c1 := h2.right.cell 1
  have H2 := Lib.hid h2
  clear hb h2 H1
  go_wp2_with fail
  refine (ref_made w _ n room _ HO.out H2.out).mono ?_
  rintro e w2 ⟨p, rfl, hp⟩
  have HP := Lib.hid hp
  clear hp c0 c1
  unfold rptr
  go_wp2_with fail
  go_loopw [7] (fun i wr => ∃ k : Nat, k ≤ len ∧ i = .int .i64 k ∧ RPlays w p ((DM.init n room).runs (mvs.take k)) (playF w n room) wr) (fun i _ => len - (intOf i).toNat)
  case atStart => exact ⟨0, Nat.zero_le _, rfl, HP.out⟩
  case round =>
    obtain ⟨k, hk, rfl, hp⟩ := hrel
    clear HP
    by_cases hlt : k < len
    · have hx := List.getElem?_eq_getElem (show k < mvs.length by rw [← HL.out]; exact hlt)
      generalize mvs[k] = v at hx
      obtain ⟨b, off, rfl, hok, e0, e1, e2, e3⟩ := HM.out.at hp.holds hx
      have HX := Lib.hid hx
      have HP := Lib.hid hp
      have HV := Lib.hid hok.2.2.1
      clear hx hp hok
      go_wp2_with fail
      refine (ref_moves w _ p v HV.out HP.out).mono ?_
      rintro e w' ⟨rfl, hp'⟩
      have HP' : Hid (RPlays w p ((DM.init n room).runs (mvs.take (k + 1))) (playF w n room) w') := by rw [DM.runs_take _ _ HX.out]; exact hp'
      clear hp'
      go_wp2_with fail
      go_roundw
      case rel => exact ⟨k + 1, by omega, by go_num, HP'.out⟩
      case measure => simp [intOf]; omega
    · have : k = len := by omega
      subst this
      have e := HL.out
      rw [List.take_of_length_le (by omega)] at hp
      have HP := Lib.hid hp
      clear hp e
      go_wp2_with fail
      refine (ref_runs w _ p HP.out).mono ?_
      rintro e w2 ⟨v, S', rfl, hR, hp2⟩
      obtain ⟨cv, tv, wv, Sc, St, Sw, rfl, q1, q2, q3, rfl⟩ := hR
      obtain ⟨ca, cc, rfl⟩ := q1.form
      obtain ⟨ta, tc, rfl⟩ := q2.form
      obtain ⟨wa, wc, rfl⟩ := q3.form
      have h2 := hp2.holds.of_eq (show _ = pt (w.heap.size + 1) (.cells #[.slice none 0 0, .slice none 0 0, .slice none 0 0, .slice none 0 0] 33 (0, 0)) + (Sc + (St + Sw) + (pt w.heap.size (.cells #[.int .i64 (n : Int), .int .i64 (room : Int)] 23 (0, 0)))) from by unfold playF; rw [Hp.add_emp]; ac_rfl)
      have k0 : w2.cell? ⟨w.heap.size + 1, 0, none⟩ = some (.slice none 0 0) := by rw [h2.cell]; rfl
      have k1 : w2.cell? ⟨w.heap.size + 1, 1, none⟩ = some (.slice none 0 0) := by rw [h2.cell]; rfl
      have k2 : w2.cell? ⟨w.heap.size + 1, 2, none⟩ = some (.slice none 0 0) := by rw [h2.cell]; rfl
      have k3 : w2.cell? ⟨w.heap.size + 1, 3, none⟩ = some (.slice none 0 0) := by rw [h2.cell]; rfl
      have f0 := h2.free 0
      have f1 := h2.free 1
      have f2 := h2.free 2
      have f3 := h2.free 3
      have H2 := Lib.hid h2
      have HR := Lib.hid (show RunAt _ _ _ _ (Sc + (St + Sw)) from ⟨_, _, _, Sc, St, Sw, rfl, q1, q2, q3, rfl⟩)
      rw [List.length_map] at HR
      clear h2 hp2 q1 q2 q3 HP
      go_wp2_with fail
      have h3 := (((((H2.out.set 0 (.slice ca ((DM.init n room).runs mvs).calls.length cc)).set 1 (.slice ta ((DM.init n room).runs mvs).trace.length tc)).set 2 (.slice none 0 0)).set 3 (.slice wa ((DM.init n room).runs mvs).words.length wc)).of_eq (show _ = pt (w.heap.size + 1) (.cells #[.slice ca ((DM.init n room).runs mvs).calls.length cc, .slice ta ((DM.init n room).runs mvs).trace.length tc, .slice none 0 0, .slice wa ((DM.init n room).runs mvs).words.length wc] 33 (0, 0)) + (Sc + (St + Sw) + (pt w.heap.size (.cells #[.int .i64 (n : Int), .int .i64 (room : Int)] 23 (0, 0)))) from by simp only [List.setIfInBounds_toArray, List.set_cons_zero, List.set_cons_succ]))
      refine bodyPost_ret (v := .tuple #[.agg #[.slice ca ((DM.init n room).runs mvs).calls.length cc, .slice ta ((DM.init n room).runs mvs).trace.length tc, .slice none 0 0, .slice wa ((DM.init n room).runs mvs).words.length wc], .int .i64 0]) ?_ rfl ?_
      · exact results_cell_two (ty := 33) (p := 4) (t := 5) (by rfl) _ _ (w.heap.size + 1) 33 _ (0, 0) _ (by rfl) h3.at Try.underlying33 rfl (by kernel_rfl)
      · exact ⟨_, _, rfl, HR.out, h3.right.left⟩


def noF (w : World) (th room : Int) : Hp := pt (w.heap.size + 1) (.cells #[.slice none 0 0, .slice none 0 0, .slice none 0 0, .slice none 0 0] 33 (0, 0)) + (pt w.heap.size (.cells #[.int .i64 th, .int .i64 room] 23 (0, 0)) + emp)

theorem noF_start (w : World) (th room : Int) : Holds w ((w.alloc (.cells #[.int .i64 th, .int .i64 room] 23 (0, 0))).alloc (.cells #[.slice none 0 0, .slice none 0 0, .slice none 0 0, .slice none 0 0] 33 (0, 0))) (noF w th room) :=
  ((Holds.self w).new w.heap.size rfl _).new (w.heap.size + 1) (by simp) _

theorem noF_cells {w wr : World} {th room : Int} (h : Holds w wr (noF w th room)) : wr.cell? ⟨w.heap.size + 1, 0, none⟩ = some (.slice none 0 0) ∧ wr.cell? ⟨w.heap.size + 1, 1, none⟩ = some (.slice none 0 0) ∧ wr.cell? ⟨w.heap.size + 1, 2, none⟩ = some (.slice none 0 0) ∧ wr.cell? ⟨w.heap.size + 1, 3, none⟩ = some (.slice none 0 0) ∧
    (∀ i, wr.frozen? ⟨w.heap.size + 1, i, none⟩ = false) ∧ wr.cell? ⟨w.heap.size, 0, none⟩ = some (.int .i64 th) ∧ wr.cell? ⟨w.heap.size, 1, none⟩ = some (.int .i64 room) := by
  unfold noF at h
  refine ⟨?_, ?_, ?_, ?_, fun i => h.free i, ?_, ?_⟩
  · rw [h.cell]; rfl
  · rw [h.cell]; rfl
  · rw [h.cell]; rfl
  · rw [h.cell]; rfl
  · rw [h.right.cell]; rfl
  · rw [h.right.cell]; rfl

theorem noF_done {w wr : World} {th room : Int} (h : Holds w wr (noF w th room)) :
    Holds w ((((wr.setCell ⟨w.heap.size + 1, 0, none⟩ (.slice none 0 0)).setCell ⟨w.heap.size + 1, 1, none⟩ (.slice none 0 0)).setCell ⟨w.heap.size + 1, 2, none⟩ (.slice none 0 0)).setCell ⟨w.heap.size + 1, 3, none⟩ (.slice none 0 0)) (noF w th room) := by
  unfold noF at h ⊢
  have := (((h.set 0 (.slice none 0 0)).set 1 (.slice none 0 0)).set 2 (.slice none 0 0)).set 3 (.slice none 0 0)
  simpa only [List.setIfInBounds_toArray, List.set_cons_zero, List.set_cons_succ] using this

set_option maxHeartbeats 1000000 in
set_option maxRecDepth 100000 in
theorem refplay_no (w : World) (th room : Int) (a : Option Addr) (len cap : Nat) (hno : ¬ okD th room) :
    Calls Try.prog 13 #[dqV th room, .slice a len cap] w fun e w' => ∃ v, e = .returned (.tuple #[v, .int .i64 210]) ∧ RunAt v [] [] [] emp ∧ Holds w w' emp := by
  have H1 := Lib.hid (noF_start w th room)
  have HN := Lib.hid hno
  clear hno
  unfold dqV
  go_enter Try.func13, Try.ntmps13
  go_wp2_with fail
  refine (check_at _ th room).mono ?_
  rintro e w1 ⟨rfl, hb⟩
  rw [decide_eq_false HN.out]
  have h2 := H1.out.of_below hb
  obtain ⟨c0, c1, c2, c3, fz, c4, c5⟩ := noF_cells h2
  have f0 := fz 0
  have f1 := fz 1
  have f2 := fz 2
  have f3 := fz 3
  have H2 := Lib.hid h2
  clear hb h2 H1 fz
  go_wp2_with fail
  have h3 := noF_done H2.out
  refine bodyPost_ret (v := .tuple #[.agg #[.slice none 0 0, .slice none 0 0, .slice none 0 0, .slice none 0 0], .int .i64 210]) ?_ rfl ?_
  · unfold noF at h3
    exact results_cell_two (ty := 33) (p := 4) (t := 5) (by rfl) _ _ (w.heap.size + 1) 33 _ (0, 0) _ (by rfl) h3.at Try.underlying33 rfl (by kernel_rfl)
  · exact ⟨_, rfl, RunAt.zero, h3.right.right⟩

set_option maxHeartbeats 1000000 in
set_option maxRecDepth 100000 in
theorem refplay_long (w : World) (n room : Nat) (a : Option Addr) (len cap : Nat) (hok : okD n room) (hl : 65536 < len) (hl2 : len ≤ maxLen) :
    Calls Try.prog 13 #[dqV n room, .slice a len cap] w fun e w' => ∃ v, e = .returned (.tuple #[v, .int .i64 3]) ∧ RunAt v [] [] [] emp ∧ Holds w w' emp := by
  unfold maxLen at hl2
  have H1 := Lib.hid (noF_start w n room)
  have HN := Lib.hid hok
  clear hok
  unfold dqV
  go_enter Try.func13, Try.ntmps13
  go_wp2_with fail
  refine (check_at _ n room).mono ?_
  rintro e w1 ⟨rfl, hb⟩
  rw [decide_eq_true HN.out]
  have h2 := H1.out.of_below hb
  obtain ⟨c0, c1, c2, c3, fz, c4, c5⟩ := noF_cells h2
  have f0 := fz 0
  have f1 := fz 1
  have f2 := fz 2
  have f3 := fz 3
  have H2 := Lib.hid h2
  clear hb h2 H1 fz
  go_wp2_with fail
  have h3 := noF_done H2.out
  refine bodyPost_ret (v := .tuple #[.agg #[.slice none 0 0, .slice none 0 0, .slice none 0 0, .slice none 0 0], .int .i64 3]) ?_ rfl ?_
  · unfold noF at h3
    exact results_cell_two (ty := 33) (p := 4) (t := 5) (by rfl) _ _ (w.heap.size + 1) 33 _ (0, 0) _ (by rfl) h3.at Try.underlying33 rfl (by kernel_rfl)
  · exact ⟨_, rfl, RunAt.zero, h3.right.right⟩

set_option maxHeartbeats 1000000 in
set_option maxRecDepth 100000 in
theorem play_no (w : World) (th room : Int) (a : Option Addr) (len cap : Nat) (hno : ¬ okD th room) :
    Calls Try.prog 12 #[dqV th room, .slice a len cap] w fun e w' => ∃ v, e = .returned (.tuple #[v, .int .i64 210]) ∧ RunAt v [] [] [] emp ∧ Holds w w' emp := by
  have h1 := noF_start w th room
  obtain ⟨c0, c1, c2, c3, fz, c4, c5⟩ := noF_cells h1
  have H1 := Lib.hid h1
  have HN := Lib.hid hno
  clear hno h1 c0 c1 c2 c3 fz
  unfold dqV
  go_enter Try.func12, Try.ntmps12
  go_wp2_with fail
  refine (deque_new_no w _ th room _ HN.out H1.out).mono ?_
  rintro e w1 ⟨rfl, h2⟩
  obtain ⟨c0, c1, c2, c3, fz, c4, c5⟩ := noF_cells h2
  have f0 := fz 0
  have f1 := fz 1
  have f2 := fz 2
  have f3 := fz 3
  have H2 := Lib.hid h2
  clear h2 H1 fz
  go_wp2_with fail
  have h3 := noF_done H2.out
  refine bodyPost_ret (v := .tuple #[.agg #[.slice none 0 0, .slice none 0 0, .slice none 0 0, .slice none 0 0], .int .i64 210]) ?_ rfl ?_
  · unfold noF at h3
    exact results_cell_two (ty := 33) (p := 4) (t := 5) (by rfl) _ _ (w.heap.size + 1) 33 _ (0, 0) _ (by rfl) h3.at Try.underlying33 rfl (by kernel_rfl)
  · exact ⟨_, rfl, RunAt.zero, h3.right.right⟩

set_option maxHeartbeats 1000000 in
set_option maxRecDepth 100000 in
theorem play_long (w : World) (n room : Nat) (a : Option Addr) (len cap : Nat) (hok : okD n room) (hl : 65536 < len) (hl2 : len ≤ maxLen) :
    Calls Try.prog 12 #[dqV n room, .slice a len cap] w fun e w' => ∃ v, e = .returned (.tuple #[v, .int .i64 3]) ∧ RunAt v [] [] [] emp ∧ Holds w w' emp := by
  unfold maxLen at hl2
  have h1 := noF_start w n room
  obtain ⟨c0, c1, c2, c3, fz, c4, c5⟩ := noF_cells h1
  have H1 := Lib.hid h1
  have HN := Lib.hid hok
  clear hok h1 c0 c1 c2 c3 fz
  unfold dqV
  go_enter Try.func12, Try.ntmps12
  go_wp2_with fail
  refine (deque_made w _ n room _ HN.out H1.out).mono ?_
  rintro e w1 ⟨p, rfl, hp⟩
  have h2 := hp.holds
  obtain ⟨c0, c1, c2, c3, fz, c4, c5⟩ := noF_cells h2
  have f0 := fz 0
  have f1 := fz 1
  have f2 := fz 2
  have f3 := fz 3
  have H2 := Lib.hid h2
  clear h2 H1 fz hp
  go_wp2_with fail
  have h3 := noF_done H2.out
  refine bodyPost_ret (v := .tuple #[.agg #[.slice none 0 0, .slice none 0 0, .slice none 0 0, .slice none 0 0], .int .i64 3]) ?_ rfl ?_
  · unfold noF at h3
    exact results_cell_two (ty := 33) (p := 4) (t := 5) (by rfl) _ _ (w.heap.size + 1) 33 _ (0, 0) _ (by rfl) h3.at Try.underlying33 rfl (by kernel_rfl)
  · exact ⟨_, rfl, RunAt.zero, h3.right.right⟩

end Go.Proofs.Ythifeaigdobonaa
