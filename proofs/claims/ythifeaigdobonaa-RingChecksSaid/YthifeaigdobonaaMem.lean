/- The program's memory: its words, its log, and what Load, Store and Swap do to them. -/
import Derived.Test.YthifeaigdobonaaProg
import Derived.Test.YthifeaigdobonaaApp
import Derived.WalkSpells
import Derived.WalkLawsBesides
import Derived.Deep.DeepCutAuto
namespace Go.Proofs.Ythifeaigdobonaa
open Go.RowKit

structure Acc where
  move : Int
  thread : Int
  kind : Int
  addr : Int
  old : Int
  new : Int
  saw : Int

def encAcc (a : Acc) : List Value := [.int .i64 a.move, .int .i64 a.thread, .int .i64 a.kind, .int .i64 a.addr, .int .u64 a.old, .int .u64 a.new, .int .u64 a.saw]
def rows {α : Type} (enc : α → List Value) (l : List α) : List Value := l.flatMap enc
/-- The number at a place; 0 behind the end. -/
def wd (l : List Int) (i : Nat) : Int := l[i]?.getD 0
/-- A swap: the words behind it; whether it succeeds. -/
def swp (words : List Int) (i : Nat) (old v : Int) : List Int := if wd words i = old then words.set i v else words
def swb (words : List Int) (i : Nat) (old : Int) : Bool := decide (wd words i = old)
def u64s (l : List Int) : List Value := l.map (Value.int .u64)

/-- Memory: its block, its words, its log, what stood ahead, the move. -/
def MemAt (bm : Nat) (words : List Int) (log : List Acc) (ahead : List Int) (mv : Int) (S : Hp) : Prop :=
  ∃ wv lv av Sw Sl Sa, RowAt 82 1 wv words.length (u64s words) Sw ∧ RowAt 103 7 lv log.length (rows encAcc log) Sl ∧
    RowAt 82 1 av ahead.length (u64s ahead) Sa ∧
    S = pt bm (.cells #[wv, lv, av, .int .i64 mv] 176 (0, 0)) + (Sw + (Sl + Sa))

theorem infoAcc : (Try.prog.info? 103).map (fun i => (i.zero, i.size, i.bytes)) = some (some (.agg #[.int .i64 0, .int .i64 0, .int .i64 0, .int .i64 0, .int .u64 0, .int .u64 0, .int .u64 0]), 7, 56) := by kernel_rfl
theorem infoU64 : (Try.prog.info? 82).map (fun i => (i.zero, i.size, i.bytes)) = some (some (.int .u64 0), 1, 8) := by kernel_rfl

theorem size_at (W w : World) (bm : Nat) (wv lv av mv : Value) (fr : Nat × Nat) (F : Hp) (n cap : Nat) (a : Option Addr) (hv : wv = .slice a n cap)
    (h : Holds W w (pt bm (.cells #[wv, lv, av, mv] 176 fr) + F)) :
    Calls Try.prog 155 #[.pointer (some ⟨bm, 0, none⟩)] w fun e w' => w = w' ∧ e = .returned (.int .i64 n) := by
  subst hv
  have c0 : w.cell? ⟨bm, 0, none⟩ = some (.slice a n cap) := by rw [h.cell]; rfl
  clear h
  go_enter Try.func155, Try.ntmps155
  go_wp2
  go_ret
  exact ⟨rfl, rfl⟩

set_option maxHeartbeats 800000 in
theorem note_at (W w : World) (bm : Nat) (words : List Int) (log : List Acc) (ahead : List Int) (mv m0 : Int) (a : Acc) (ah : Int) (S F : Hp)
    (hb : log.length < 1048576) (hb2 : ahead.length < 1048576) (hS : MemAt bm words log ahead mv S) (h : Holds W w (S + F)) :
    Calls Try.prog 157 #[.pointer (some ⟨bm, 0, none⟩), .agg #[.int .i64 m0, .int .i64 a.thread, .int .i64 a.kind, .int .i64 a.addr, .int .u64 a.old, .int .u64 a.new, .int .u64 a.saw], .int .u64 ah] w fun e w' => e = .returned (.tuple #[]) ∧
      ∃ S', MemAt bm words (log ++ [{ a with move := mv }]) (ahead ++ [ah]) mv S' ∧ Holds W w' (S' + F) := by
  obtain ⟨wv, lv, av, Sw, Sl, Sa, hw, hl, ha, rfl⟩ := hS
  obtain ⟨i0, hi, hz0, hz1, hz2⟩ := info_parts infoAcc
  have h0 := h.of_eq (show _ = pt bm (.cells #[wv, lv, av, .int .i64 mv] 176 (0, 0)) + (Sl + (Sw + Sa + F)) from by ac_rfl)
  have c3 : w.cell? ⟨bm, 3, none⟩ = some (.int .i64 mv) := by rw [h0.cell]; rfl
  have c1 : w.cell? ⟨bm, 1, none⟩ = some lv := by rw [h0.cell]; rfl
  have hlt := h0.lt
  go_enter Try.func157, Try.ntmps157
  go_upto_region 2 with fail
  have h1 := (h0.alloc (.cells (encAcc { a with move := mv }).toArray 103 (0, 0))).right
  clear h h0
  go_cut [] (fun wx => ∃ lv' Sl', RowAt 103 7 lv' (log.length + 1) (rows encAcc log ++ encAcc { a with move := mv }) Sl' ∧ Holds W wx (pt bm (.cells #[wv, lv', av, .int .i64 mv] 176 (0, 0)) + (Sl' + Sw + Sa + F)))
  case first =>
    go_region_law (refine step_append_one (W := W) (F := pt bm (.cells #[wv, lv, av, .int .i64 mv] 176 (0, 0)) + (Sw + Sa + F)) rfl (.tmp 15) (.tmp 17) 29 rfl 103 i0 _ 7 56 Try.underlying29 hi hz0 hz1 hz2 rfl (by decide) lv log.length (rows encAcc log) Sl rfl hl (w.heap.size + 1) 1 103 (encAcc { a with move := mv }) rfl rfl (by simp [encAcc, Value.oneCell']) (by unfold maxLen; omega) (by omega) ((h1.new (w.heap.size + 1) (by simp) (.cells (encAcc { a with move := mv }).toArray 103 (0, 0))).drew.of_eq (by ac_rfl)) ?_; intro g cap w2 S2 r1 r2; have k1 : w2.cell? ⟨bm, 1, none⟩ = some lv := by {rw [(r2.of_eq (Hp.add_comm _ _)).left.cell]; rfl}; have k2 : w2.frozen? ⟨bm, 1, none⟩ = false := (r2.of_eq (Hp.add_comm _ _)).left.free 1)
    all_goals
      go_wp2_with fail
      go_meet
      exact ⟨_, _, r1, (r2.of_eq (show _ = pt bm (.cells #[wv, lv, av, .int .i64 mv] 176 (0, 0)) + (S2 + Sw + Sa + F) from by ac_rfl)).set 1 _⟩
  case rest =>
    obtain ⟨lv', Sl', r1, h3⟩ := hcut
    clear h1 hlt c1 c3
    have c2 : wc.cell? ⟨bm, 2, none⟩ = some av := by rw [h3.cell]; rfl
    have f2 : wc.frozen? ⟨bm, 2, none⟩ = false := h3.free 2
    have hlt := h3.lt
    obtain ⟨i1, hj, hy0, hy1, hy2⟩ := info_parts infoU64
    go_wp2_with (at_builtin; go_must (refine wpList_append_one (W := W) (F := pt bm (.cells #[wv, lv', av, .int .i64 mv] 176 (0, 0)) + (Sl' + Sw + F)) rfl (.tmp 25) (.tmp 27) 31 rfl 82 i1 _ 1 8 Try.underlying31 hj hy0 hy1 hy2 rfl (by decide) av ahead.length (u64s ahead) Sa rfl ha wc.heap.size 1 82 [.int .u64 ah] rfl rfl (by simp [Value.oneCell']) ?b1 ?b2 ((h3.new wc.heap.size rfl (.cells #[.int .u64 ah] 82 (0, 0))).of_eq (by ac_rfl)) ?k))
    case b1 => unfold maxLen; omega
    case b2 => omega
    case k =>
      intro g2 cap2 w4 S4 q1 q2
      have h4 := q2.of_eq (show _ = pt bm (.cells #[wv, lv', av, .int .i64 mv] 176 (0, 0)) + (Sw + (Sl' + S4) + F) from by ac_rfl)
      have k1 : w4.cell? ⟨bm, 2, none⟩ = some av := by rw [h4.cell]; rfl
      have k2 : w4.frozen? ⟨bm, 2, none⟩ = false := h4.free 2
      go_wp2
      go_end0
      have e1 : (log ++ [{ a with move := mv }]).length = log.length + 1 := by simp
      have e2 : (ahead ++ [ah]).length = ahead.length + 1 := by simp
      have e3 : rows encAcc (log ++ [{ a with move := mv }]) = rows encAcc log ++ encAcc { a with move := mv } := by simp [rows]
      have e4 : u64s (ahead ++ [ah]) = u64s ahead ++ [.int .u64 ah] := by simp [u64s]
      refine ⟨rfl, _, ⟨wv, lv', _, Sw, Sl', S4, hw, by rw [e1, e3]; exact r1, by rw [e2, e4]; exact q1, rfl⟩, ?_⟩
      exact (h4.set 2 _).of_eq (by simp only [List.setIfInBounds_toArray]; ac_rfl)

/-- A word of the row. -/
theorem u64s_cell {W w : World} {F : Hp} {g : Nat} {words : List Int} {rest : List Value} {t : TypeId} {fr : Nat × Nat} (h : Holds W w (pt g (.cells (u64s words ++ rest).toArray t fr) + F)) (i : Nat) (hi : i < words.length) :
    w.cell? ⟨g, i, none⟩ = some (.int .u64 (wd words i)) := by
  rw [h.cell]
  simp [u64s, List.getElem?_append, hi, wd]

theorem has_at (W w : World) (bm : Nat) (lv av mv : Value) (fr : Nat × Nat) (F : Hp) (n cap : Nat) (a : Option Addr) (addr : Int) (h0 : 0 ≤ addr) (h1 : addr < n)
    (h : Holds W w (pt bm (.cells #[.slice a n cap, lv, av, mv] 176 fr) + F)) :
    Calls Try.prog 156 #[.pointer (some ⟨bm, 0, none⟩), .int .i64 addr] w fun e w' => w = w' ∧ e = .returned (.bool true) := by
  go_enter Try.func156, Try.ntmps156
  go_wp2_with (go_at_call 155; go_must (refine (size_at W w bm _ lv av mv fr F n cap a rfl h).mono ?_; rintro e w' ⟨rfl, rfl⟩))
  go_ret
  exact ⟨rfl, rfl⟩

def LoadPost (W : World) (bm : Nat) (words : List Int) (log : List Acc) (ahead : List Int) (mv : Int) (F : Hp) (r : Value) (e : Ending) (w' : World) : Prop :=
  e = .returned r ∧ ∃ S', MemAt bm words log ahead mv S' ∧ Holds W w' (S' + F)

/-- A word of a memory: where it lies, what a store does to it. -/
theorem MemAt.word {W w : World} {bm : Nat} {words : List Int} {log : List Acc} {ahead : List Int} {mv : Int} {S F : Hp} (hS : MemAt bm words log ahead mv S) (h : Holds W w (S + F)) (i : Nat) (hi : i < words.length) :
    ∃ g cap lv av F1, Holds W w (pt bm (.cells #[.slice (some ⟨g, 0, none⟩) words.length cap, lv, av, .int .i64 mv] 176 (0, 0)) + F1) ∧
      w.cell? ⟨bm, 0, none⟩ = some (.slice (some ⟨g, 0, none⟩) words.length cap) ∧ w.cell? ⟨g, i, none⟩ = some (.int .u64 (wd words i)) ∧ w.frozen? ⟨g, i, none⟩ = false ∧ (words.length : Int) ≤ 9223372036854775807 ∧
      ∀ v, ∃ S', MemAt bm (words.set i v) log ahead mv S' ∧ Holds W (w.setCell ⟨g, i, none⟩ (.int .u64 v)) (S' + F) := by
  obtain ⟨wv, lv, av, Sw, Sl, Sa, hw, hl, ha, rfl⟩ := hS
  obtain ⟨g, cap, rest, rfl, k1, k2, k3, rfl⟩ := hw.some (by omega)
  have i0 := h.of_eq (show _ = pt bm (.cells #[.slice (some ⟨g, 0, none⟩) words.length cap, lv, av, .int .i64 mv] 176 (0, 0)) + (pt g (.cells (u64s words ++ rest).toArray 82 (0, 0)) + Sl + Sa + F) from by ac_rfl)
  have i1 := h.of_eq (show _ = pt g (.cells (u64s words ++ rest).toArray 82 (0, 0)) + (pt bm (.cells #[.slice (some ⟨g, 0, none⟩) words.length cap, lv, av, .int .i64 mv] 176 (0, 0)) + Sl + Sa + F) from by ac_rfl)
  refine ⟨g, cap, lv, av, _, i0, by rw [i0.cell]; rfl, u64s_cell i1 i hi, i1.free i, by unfold maxLen at k2; omega, fun v => ?_⟩
  have e1 : (u64s words ++ rest).toArray.setIfInBounds i (.int .u64 v) = (u64s (words.set i v) ++ rest).toArray := by
    simp only [List.setIfInBounds_toArray, u64s]
    rw [List.set_append_left _ _ (by simpa using hi)]
    simp
  have i2 := i1.set i (.int .u64 v)
  rw [e1] at i2
  have hlen : (words.set i v).length = words.length := by simp
  have r := RowAt.mk 82 1 g (words.set i v).length cap (u64s (words.set i v)) rest (by simp [u64s]) (by omega) k2 (by simpa [u64s] using k3)
  rw [hlen] at r
  exact ⟨_, ⟨_, lv, av, _, Sl, Sa, by rw [hlen]; exact r, hl, ha, rfl⟩, i2.of_eq (by ac_rfl)⟩

set_option maxHeartbeats 400000 in
theorem load_at (W w : World) (bm : Nat) (words : List Int) (log : List Acc) (ahead : List Int) (mv th addr : Int) (S F : Hp)
    (hb : log.length < 1048576) (hb2 : ahead.length < 1048576) (g0 : 0 ≤ addr) (g1 : addr < words.length) (hS : MemAt bm words log ahead mv S) (h : Holds W w (S + F)) :
    Calls Try.prog 150 #[.pointer (some ⟨bm, 0, none⟩), .int .i64 th, .int .i64 addr] w
      (LoadPost W bm words (log ++ [⟨mv, th, 1, addr, 0, 0, wd words addr.toNat⟩]) (ahead ++ [wd words addr.toNat]) mv F (.tuple #[.int .u64 (wd words addr.toNat), .int .i64 0])) := by
  obtain ⟨g, cap, lv, av, F1, i0, c0, c1, _, hlen, _⟩ := hS.word h addr.toNat (by omega)
  go_enter Try.func150, Try.ntmps150
  go_wp2_with fail
  refine (has_at W w bm lv av _ _ _ _ _ _ _ g0 g1 i0).mono ?_
  rintro e w' ⟨rfl, rfl⟩
  go_wp2_with fail
  refine (note_at W w bm words log ahead mv 0 ⟨mv, th, 1, addr, 0, 0, wd words addr.toNat⟩ _ _ F hb hb2 hS h).mono ?_
  rintro e w' ⟨rfl, S', hS', h'⟩
  go_wp2_with fail
  go_ret2
  exact ⟨rfl, S', hS', h'⟩

set_option maxHeartbeats 400000 in
theorem store_at (W w : World) (bm : Nat) (words : List Int) (log : List Acc) (ahead : List Int) (mv th addr v : Int) (S F : Hp)
    (hb : log.length < 1048576) (hb2 : ahead.length < 1048576) (g0 : 0 ≤ addr) (g1 : addr < words.length) (hS : MemAt bm words log ahead mv S) (h : Holds W w (S + F)) :
    Calls Try.prog 162 #[.pointer (some ⟨bm, 0, none⟩), .int .i64 th, .int .i64 addr, .int .u64 v] w
      (LoadPost W bm (words.set addr.toNat v) (log ++ [⟨mv, th, 2, addr, 0, v, 0⟩]) (ahead ++ [wd words addr.toNat]) mv F (.int .i64 0)) := by
  obtain ⟨g, cap, lv, av, F1, i0, c0, c1, _, hlen, _⟩ := hS.word h addr.toNat (by omega)
  go_enter Try.func162, Try.ntmps162
  go_wp2_with fail
  refine (has_at W w bm lv av _ _ _ _ _ _ _ g0 g1 i0).mono ?_
  rintro e w' ⟨rfl, rfl⟩
  go_wp2_with fail
  refine (note_at W w bm words log ahead mv 0 ⟨mv, th, 2, addr, 0, v, 0⟩ _ _ F hb hb2 hS h).mono ?_
  rintro e w' ⟨rfl, S', hS', h'⟩
  clear c0 c1 i0
  obtain ⟨g, cap, lv, av, F1, i0, c0, c1, fz, hlen, hset⟩ := hS'.word h' addr.toNat (by omega)
  go_wp2_with fail
  go_ret
  obtain ⟨S2, a1, a2⟩ := hset v
  exact ⟨rfl, S2, a1, a2⟩

set_option maxHeartbeats 400000 in
theorem swap_yes (W w : World) (bm : Nat) (words : List Int) (log : List Acc) (ahead : List Int) (mv th addr old v : Int) (S F : Hp)
    (hb : log.length < 1048576) (hb2 : ahead.length < 1048576) (g0 : 0 ≤ addr) (g1 : addr < words.length) (ho : wd words addr.toNat = old) (hS : MemAt bm words log ahead mv S) (h : Holds W w (S + F)) :
    Calls Try.prog 173 #[.pointer (some ⟨bm, 0, none⟩), .int .i64 th, .int .i64 addr, .int .u64 old, .int .u64 v] w
      (LoadPost W bm (words.set addr.toNat v) (log ++ [⟨mv, th, 3, addr, old, v, wd words addr.toNat⟩]) (ahead ++ [wd words addr.toNat]) mv F (.tuple #[.int .u64 (wd words addr.toNat), .bool true, .int .i64 0])) := by
  obtain ⟨g, cap, lv, av, F1, i0, c0, c1, _, hlen, _⟩ := hS.word h addr.toNat (by omega)
  have hd : (wd words addr.toNat != old) = false := by rw [ho]; simp
  clear ho
  go_enter Try.func173, Try.ntmps173
  go_wp2_with fail
  refine (has_at W w bm lv av _ _ _ _ _ _ _ g0 g1 i0).mono ?_
  rintro e w' ⟨rfl, rfl⟩
  go_wp2_with fail
  refine (note_at W w bm words log ahead mv 0 ⟨mv, th, 3, addr, old, v, wd words addr.toNat⟩ _ _ F hb hb2 hS h).mono ?_
  rintro e w' ⟨rfl, S', hS', h'⟩
  clear c0 c1 i0
  obtain ⟨g, cap, lv, av, F1, i0, c0, c1, fz, hlen, hset⟩ := hS'.word h' addr.toNat (by omega)
  go_wp2_with fail
  go_ret3
  obtain ⟨S2, a1, a2⟩ := hset v
  exact ⟨rfl, S2, a1, a2⟩

set_option maxHeartbeats 400000 in
theorem swap_no (W w : World) (bm : Nat) (words : List Int) (log : List Acc) (ahead : List Int) (mv th addr old v : Int) (S F : Hp)
    (hb : log.length < 1048576) (hb2 : ahead.length < 1048576) (g0 : 0 ≤ addr) (g1 : addr < words.length) (ho : wd words addr.toNat ≠ old) (hS : MemAt bm words log ahead mv S) (h : Holds W w (S + F)) :
    Calls Try.prog 173 #[.pointer (some ⟨bm, 0, none⟩), .int .i64 th, .int .i64 addr, .int .u64 old, .int .u64 v] w
      (LoadPost W bm words (log ++ [⟨mv, th, 3, addr, old, v, wd words addr.toNat⟩]) (ahead ++ [wd words addr.toNat]) mv F (.tuple #[.int .u64 (wd words addr.toNat), .bool false, .int .i64 0])) := by
  obtain ⟨g, cap, lv, av, F1, i0, c0, c1, _, hlen, _⟩ := hS.word h addr.toNat (by omega)
  have hd : (wd words addr.toNat != old) = true := by rw [bne_iff_ne]; exact ho
  clear ho
  go_enter Try.func173, Try.ntmps173
  go_wp2_with fail
  refine (has_at W w bm lv av _ _ _ _ _ _ _ g0 g1 i0).mono ?_
  rintro e w' ⟨rfl, rfl⟩
  go_wp2_with fail
  refine (note_at W w bm words log ahead mv 0 ⟨mv, th, 3, addr, old, v, wd words addr.toNat⟩ _ _ F hb hb2 hS h).mono ?_
  rintro e w' ⟨rfl, S', hS', h'⟩
  go_wp2_with fail
  go_ret3
  exact ⟨rfl, S', hS', h'⟩

/-- A memory whose list of what stood ahead is as long as its log. -/
def MemR (bm : Nat) (words : List Int) (log : List Acc) (mv : Int) (S : Hp) : Prop := ∃ ahead, ahead.length = log.length ∧ MemAt bm words log ahead mv S

def RPost (W : World) (bm : Nat) (words : List Int) (log : List Acc) (mv : Int) (F : Hp) (r : Value) (e : Ending) (w' : World) : Prop :=
  e = .returned r ∧ ∃ S', MemR bm words log mv S' ∧ Holds W w' (S' + F)

theorem load_r (W w : World) (bm : Nat) (words : List Int) (log : List Acc) (mv th addr : Int) (S F : Hp)
    (hb : log.length < 1048576) (g0 : 0 ≤ addr) (g1 : addr < words.length) (hS : MemR bm words log mv S) (h : Holds W w (S + F)) :
    Calls Try.prog 150 #[.pointer (some ⟨bm, 0, none⟩), .int .i64 th, .int .i64 addr] w
      (RPost W bm words (log ++ [⟨mv, th, 1, addr, 0, 0, wd words addr.toNat⟩]) mv F (.tuple #[.int .u64 (wd words addr.toNat), .int .i64 0])) := by
  obtain ⟨ahead, hal, hm⟩ := hS
  exact (load_at W w bm words log ahead mv th addr S F hb (by omega) g0 g1 hm h).mono fun e w' ⟨he, S', h1, h2⟩ => ⟨he, S', ⟨_, by simp [hal], h1⟩, h2⟩

theorem store_r (W w : World) (bm : Nat) (words : List Int) (log : List Acc) (mv th addr v : Int) (S F : Hp)
    (hb : log.length < 1048576) (g0 : 0 ≤ addr) (g1 : addr < words.length) (hS : MemR bm words log mv S) (h : Holds W w (S + F)) :
    Calls Try.prog 162 #[.pointer (some ⟨bm, 0, none⟩), .int .i64 th, .int .i64 addr, .int .u64 v] w
      (RPost W bm (words.set addr.toNat v) (log ++ [⟨mv, th, 2, addr, 0, v, 0⟩]) mv F (.int .i64 0)) := by
  obtain ⟨ahead, hal, hm⟩ := hS
  exact (store_at W w bm words log ahead mv th addr v S F hb (by omega) g0 g1 hm h).mono fun e w' ⟨he, S', h1, h2⟩ => ⟨he, S', ⟨_, by simp [hal], h1⟩, h2⟩

theorem swap_r (W w : World) (bm : Nat) (words : List Int) (log : List Acc) (mv th addr old v : Int) (S F : Hp)
    (hb : log.length < 1048576) (g0 : 0 ≤ addr) (g1 : addr < words.length) (hS : MemR bm words log mv S) (h : Holds W w (S + F)) :
    Calls Try.prog 173 #[.pointer (some ⟨bm, 0, none⟩), .int .i64 th, .int .i64 addr, .int .u64 old, .int .u64 v] w
      (RPost W bm (swp words addr.toNat old v) (log ++ [⟨mv, th, 3, addr, old, v, wd words addr.toNat⟩]) mv F
        (.tuple #[.int .u64 (wd words addr.toNat), .bool (swb words addr.toNat old), .int .i64 0])) := by
  obtain ⟨ahead, hal, hm⟩ := hS
  unfold swp swb
  by_cases ho : wd words addr.toNat = old
  · rw [if_pos ho, decide_eq_true ho]
    exact (swap_yes W w bm words log ahead mv th addr old v S F hb (by omega) g0 g1 ho hm h).mono fun e w' ⟨he, S', h1, h2⟩ => ⟨he, S', ⟨_, by simp [hal], h1⟩, h2⟩
  · rw [if_neg ho, decide_eq_false ho]
    exact (swap_no W w bm words log ahead mv th addr old v S F hb (by omega) g0 g1 ho hm h).mono fun e w' ⟨he, S', h1, h2⟩ => ⟨he, S', ⟨_, by simp [hal], h1⟩, h2⟩

end Go.Proofs.Ythifeaigdobonaa
