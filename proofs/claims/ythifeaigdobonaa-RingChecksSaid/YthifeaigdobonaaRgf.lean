/- slices.SortFunc of no more than one ticket; the predicate of 'tickets'; slices.IndexFunc over it. -/
import Derived.Test.YthifeaigdobonaaRge
import Derived.Test.YthifeaigdobonaaSam
namespace Go.Proofs.Ythifeaigdobonaa
open Go.RowKit

set_option maxRecDepth 1000000 in
theorem len64_small (n : Int) (h : n = 0 ∨ n = 1) (w : World) : Calls Try.prog 119 #[.int .u64 n] w fun e w' => w = w' ∧ ∃ r : Int, e = .returned (.int .i64 r) := by
  rcases h with rfl | rfl
  all_goals
    go_enter Try.func119, Try.ntmps119
    go_wp2_with fail
    go_ret
    exact ⟨rfl, _, rfl⟩

theorem len_small (n : Int) (h : n = 0 ∨ n = 1) (w : World) : Calls Try.prog 103 #[.int .u64 n] w fun e w' => w = w' ∧ ∃ r : Int, e = .returned (.int .i64 r) := by
  go_enter Try.func103, Try.ntmps103
  go_wp2_with fail
  refine (len64_small n h w).mono ?_
  rintro e w' ⟨rfl, r, rfl⟩
  go_wp2_with fail
  go_ret
  exact ⟨rfl, _, rfl⟩

theorem insert_small (a : Option Addr) (n cap : Nat) (h : n ≤ 1) (fv : Value) (w : World) : Calls Try.prog 110 #[.slice a n cap, .int .i64 0, .int .i64 (n : Int), fv] w fun e w' => w = w' ∧ e = .returned (.tuple #[]) := by
  go_enter Try.func110, Try.ntmps110
  go_wp2_with fail
  go_loopw [8] (fun i wr => i = .int .i64 1 ∧ w = wr) (fun i _ => 0)
  case atStart => exact ⟨rfl, rfl⟩
  case round =>
    obtain ⟨rfl, rfl⟩ := hrel
    have d : decide ((1 : Int) < (n : Int)) = false := decide_eq_false (by omega)
    go_wp2_with fail
    go_end0
    exact ⟨rfl, rfl⟩

theorem pdq_small (a : Option Addr) (n cap : Nat) (h : n ≤ 1) (lim : Int) (fv : Value) (w : World) : Calls Try.prog 102 #[.slice a n cap, .int .i64 0, .int .i64 (n : Int), .int .i64 lim, fv] w fun e w' => w = w' ∧ e = .returned (.tuple #[]) := by
  go_enter Try.func102, Try.ntmps102
  go_wp2_with fail
  go_loopw [1, 2, 3, 10, 11, 12, 13, 14, 15, 16, 17, 18, 19, 20] (fun s1 s2 _ _ _ _ _ _ _ _ _ _ _ _ wr => s1 = .int .i64 0 ∧ s2 = .int .i64 (n : Int) ∧ w = wr) (fun _ _ _ _ _ _ _ _ _ _ _ _ _ _ _ => 0)
  case atStart => exact ⟨rfl, rfl, rfl⟩
  case round =>
    obtain ⟨rfl, rfl, rfl⟩ := hrel
    have d : (n : Int) ≤ 12 := by omega
    go_wp2_with fail
    refine (insert_small a n cap h fv w).mono ?_
    rintro e w' ⟨rfl, rfl⟩
    go_wp2_with fail
    refine bodyPost_ret (results_none rfl _ _ _) rfl ?_
    exact ⟨rfl, rfl⟩

theorem sort_small (a : Option Addr) (n cap : Nat) (h : n ≤ 1) (fv : Value) (w : World) : Calls Try.prog 94 #[.slice a n cap, fv] w fun e w' => w = w' ∧ e = .returned (.tuple #[]) := by
  have hn : (n : Int) ≤ 1 := by omega
  have hk : (n : Int) = 0 ∨ (n : Int) = 1 := by omega
  go_enter Try.func94, Try.ntmps94
  go_wp2_with fail
  refine (len_small n hk w).mono ?_
  rintro e w' ⟨rfl, r, rfl⟩
  go_wp2_with fail
  refine (pdq_small a n cap h r fv w).mono ?_
  rintro e w' ⟨rfl, rfl⟩
  go_wp2_with fail
  go_end0
  exact ⟨rfl, rfl⟩

/-- Is an access the one by which a call got its ticket? -/
def hit (x : ACall) (addr : Int) (a : Acc) : Bool := decide (a.thread = x.thread) && (decide (x.start < a.move) && ((decide (x.stop = -1) || decide (a.move ≤ x.stop)) && (decide (a.kind = 3) && (decide (a.addr = addr) && decide (a.saw = a.old)))))

set_option maxHeartbeats 1000000 in
theorem hit_at (w : World) (bx ba : Nat) (x : ACall) (addr : Int) (a : Acc) (cx : ∀ j, j < 9 → w.cell? ⟨bx, j, none⟩ = (encCall x)[j]?) (ca : w.cell? ⟨ba, 0, none⟩ = some (.int .i64 addr)) :
    Calls Try.prog 93 #[.agg #[.int .i64 a.move, .int .i64 a.thread, .int .i64 a.kind, .int .i64 a.addr, .int .u64 a.old, .int .u64 a.new, .int .u64 a.saw], .pointer (some ⟨bx, 0, none⟩), .pointer (some ⟨ba, 0, none⟩)] w fun e w' => e = .returned (.bool (hit x addr a)) ∧ Below w.heap.size w w' := by
  have c0 : w.cell? ⟨bx, 0, none⟩ = some (.int .i64 x.thread) := cx 0 (by decide)
  have c4 : w.cell? ⟨bx, 4, none⟩ = some (.int .i64 x.start) := cx 4 (by decide)
  have c5 : w.cell? ⟨bx, 5, none⟩ = some (.int .i64 x.stop) := cx 5 (by decide)
  have l1 := World.block_lt_of_cell? w _ c0
  have l2 := World.block_lt_of_cell? w _ ca
  clear cx
  by_cases q0 : a.thread = x.thread
  · have d0 : decide (a.thread = x.thread) = true := decide_eq_true q0
    by_cases q1 : x.start < a.move
    · have d1 : decide (x.start < a.move) = true := decide_eq_true q1
      by_cases q2 : x.stop = -1
      · have d2 : decide (x.stop = -1) = true := decide_eq_true q2
        by_cases q4 : a.kind = 3
        · have d4 : decide (a.kind = 3) = true := decide_eq_true q4
          by_cases q5 : a.addr = addr
          · have d5 : decide (a.addr = addr) = true := decide_eq_true q5
            by_cases q6 : a.saw = a.old
            · have d6 : decide (a.saw = a.old) = true := decide_eq_true q6
              have r : hit x addr a = true := by unfold hit; simp [q0, q1, q2, q4, q5, q6]
              rw [r]
              go_enter Try.func93, Try.ntmps93
              go_wp2_with fail
              go_ret
              exact ⟨rfl, (Below.refl _ _).alloc (Nat.le_refl _) _⟩
            · have d6 : decide (a.saw = a.old) = false := decide_eq_false q6
              have r : hit x addr a = false := by unfold hit; simp [q6]
              rw [r]
              go_enter Try.func93, Try.ntmps93
              go_wp2_with fail
              go_ret
              exact ⟨by simp [q6], (Below.refl _ _).alloc (Nat.le_refl _) _⟩
          · have d5 : decide (a.addr = addr) = false := decide_eq_false q5
            have r : hit x addr a = false := by unfold hit; simp [q5]
            rw [r]
            go_enter Try.func93, Try.ntmps93
            go_wp2_with fail
            go_ret
            exact ⟨rfl, (Below.refl _ _).alloc (Nat.le_refl _) _⟩
        · have d4 : decide (a.kind = 3) = false := decide_eq_false q4
          have r : hit x addr a = false := by unfold hit; simp [q4]
          rw [r]
          go_enter Try.func93, Try.ntmps93
          go_wp2_with fail
          go_ret
          exact ⟨rfl, (Below.refl _ _).alloc (Nat.le_refl _) _⟩
      have d2 : decide (x.stop = -1) = false := decide_eq_false q2
      by_cases q3 : a.move ≤ x.stop
      · have d3 : decide (a.move ≤ x.stop) = true := decide_eq_true q3
        by_cases q4 : a.kind = 3
        · have d4 : decide (a.kind = 3) = true := decide_eq_true q4
          by_cases q5 : a.addr = addr
          · have d5 : decide (a.addr = addr) = true := decide_eq_true q5
            by_cases q6 : a.saw = a.old
            · have d6 : decide (a.saw = a.old) = true := decide_eq_true q6
              have r : hit x addr a = true := by unfold hit; simp [q0, q1, q3, q4, q5, q6]
              rw [r]
              go_enter Try.func93, Try.ntmps93
              go_wp2_with fail
              go_ret
              exact ⟨rfl, (Below.refl _ _).alloc (Nat.le_refl _) _⟩
            · have d6 : decide (a.saw = a.old) = false := decide_eq_false q6
              have r : hit x addr a = false := by unfold hit; simp [q6]
              rw [r]
              go_enter Try.func93, Try.ntmps93
              go_wp2_with fail
              go_ret
              exact ⟨by simp [q6], (Below.refl _ _).alloc (Nat.le_refl _) _⟩
          · have d5 : decide (a.addr = addr) = false := decide_eq_false q5
            have r : hit x addr a = false := by unfold hit; simp [q5]
            rw [r]
            go_enter Try.func93, Try.ntmps93
            go_wp2_with fail
            go_ret
            exact ⟨rfl, (Below.refl _ _).alloc (Nat.le_refl _) _⟩
        · have d4 : decide (a.kind = 3) = false := decide_eq_false q4
          have r : hit x addr a = false := by unfold hit; simp [q4]
          rw [r]
          go_enter Try.func93, Try.ntmps93
          go_wp2_with fail
          go_ret
          exact ⟨rfl, (Below.refl _ _).alloc (Nat.le_refl _) _⟩
      have d3 : decide (a.move ≤ x.stop) = false := decide_eq_false q3
      have r : hit x addr a = false := by unfold hit; simp [q2, q3]
      rw [r]
      go_enter Try.func93, Try.ntmps93
      go_wp2_with fail
      go_ret
      exact ⟨rfl, (Below.refl _ _).alloc (Nat.le_refl _) _⟩
    · have d1 : decide (x.start < a.move) = false := decide_eq_false q1
      have r : hit x addr a = false := by unfold hit; simp [q1]
      rw [r]
      go_enter Try.func93, Try.ntmps93
      go_wp2_with fail
      go_ret
      exact ⟨rfl, (Below.refl _ _).alloc (Nat.le_refl _) _⟩
  · have d0 : decide (a.thread = x.thread) = false := decide_eq_false q0
    have r : hit x addr a = false := by unfold hit; simp [q0]
    rw [r]
    go_enter Try.func93, Try.ntmps93
    go_wp2_with fail
    go_ret
    exact ⟨rfl, (Below.refl _ _).alloc (Nat.le_refl _) _⟩
/-- The first of some accesses by which a call got its ticket, or -1. -/
def hitIx (x : ACall) (addr : Int) (tr : List Acc) : Int := match tr.findIdx? (hit x addr) with
  | some k => (k : Int)
  | none => -1

theorem hitIx_some {x : ACall} {addr : Int} {tr : List Acc} {k : Nat} {a : Acc} (ha : tr[k]? = some a) (hh : hit x addr a = true) (hb : ∀ j b, j < k → tr[j]? = some b → hit x addr b = false) : hitIx x addr tr = k := by
  have : tr.findIdx? (hit x addr) = some k := by
    rw [List.findIdx?_eq_some_iff_getElem]
    obtain ⟨hlt, rfl⟩ := List.getElem?_eq_some_iff.1 ha
    exact ⟨hlt, hh, fun j hj => by rw [hb j _ hj (List.getElem?_eq_getElem (by omega))]; simp⟩
  unfold hitIx; rw [this]

theorem hitIx_none {x : ACall} {addr : Int} {tr : List Acc} (hb : ∀ j b, j < tr.length → tr[j]? = some b → hit x addr b = false) : hitIx x addr tr = -1 := by
  have : tr.findIdx? (hit x addr) = none := by
    rw [List.findIdx?_eq_none_iff]
    intro b hm
    obtain ⟨j, hj⟩ := List.getElem?_of_mem hm
    exact hb j b (List.getElem?_eq_some_iff.1 hj).1 hj
  unfold hitIx; rw [this]

set_option maxHeartbeats 1000000 in
set_option maxRecDepth 100000 in
theorem index_at (W w : World) (bx ba : Nat) (x : ACall) (addr : Int) (tv : Value) (tr : List Acc) (St F : Hp) (hlen : tr.length ≤ 1000000) (hr : RowAt 103 7 tv tr.length (rows encAcc tr) St)
    (h : Holds W w (pt bx (.cells (encCall x).toArray 66 (0, 0)) + (pt ba (.cells #[.int .i64 addr] 3 (0, 0)) + (St + F)))) :
    Calls Try.prog 92 #[tv, .func (.func 93) #[] #[.pointer (some ⟨bx, 0, none⟩), .pointer (some ⟨ba, 0, none⟩)]] w fun e w' => e = .returned (.int .i64 (hitIx x addr tr)) ∧
      Holds W w' (pt bx (.cells (encCall x).toArray 66 (0, 0)) + (pt ba (.cells #[.int .i64 addr] 3 (0, 0)) + (St + F))) := by
  obtain ⟨ta, tc, rfl⟩ := hr.form
  obtain ⟨G, hG⟩ : ∃ G, pt bx (.cells (encCall x).toArray 66 (0, 0)) + (pt ba (.cells #[.int .i64 addr] 3 (0, 0)) + (St + F)) = G := ⟨_, rfl⟩
  rw [hG] at h ⊢
  have HG := Lib.hid hG
  have HR := Lib.hid hr
  have HH := Lib.hid h
  have HLN := Lib.hid hlen
  clear hG hr h
  go_enter Try.func92, Try.ntmps92
  go_wp2_with fail
  go_loopw [5, 8] (fun _ i wr => ∃ k : Nat, k ≤ tr.length ∧ i = .int .i64 k ∧ (∀ j b, j < k → tr[j]? = some b → hit x addr b = false) ∧ Holds W wr G) (fun _ i _ => tr.length - (intOf i).toNat)
  case atStart => exact ⟨0, Nat.zero_le _, rfl, fun j b hj => absurd hj (Nat.not_lt_zero _), HH.out⟩
  case round =>
    obtain ⟨k, hk, rfl, hno, hh⟩ := hrel
    clear HH
    have HNO := Lib.hid hno
    clear hno
    by_cases hlt : k < tr.length
    · have hx := List.getElem?_eq_getElem hlt
      generalize (tr)[k] = a at hx
      have hh1 := hh; rw [← HG.out] at hh1
      obtain ⟨g1, cap1, e1, gl1, cc⟩ := row_elem HR.out (hh1.of_eq (show _ = St + (pt bx (.cells (encCall x).toArray 66 (0, 0)) + (pt ba (.cells #[.int .i64 addr] 3 (0, 0)) + F)) by ac_rfl)) (fun _ => rfl) hx
      injection e1 with e1 _ e1'
      subst e1; subst e1'
      have u0 := cc 0 (by decide); have u1 := cc 1 (by decide); have u2 := cc 2 (by decide); have u3 := cc 3 (by decide); have u4 := cc 4 (by decide); have u5 := cc 5 (by decide); have u6 := cc 6 (by decide)
      simp only [encAcc, List.getElem?_cons_zero, List.getElem?_cons_succ, Nat.add_zero] at u0 u1 u2 u3 u4 u5 u6
      have hbx : ∀ j, j < 9 → wr.cell? ⟨bx, j, none⟩ = (encCall x)[j]? := fun j _ => by rw [hh1.cell]; simp
      have hba : wr.cell? ⟨ba, 0, none⟩ = some (.int .i64 addr) := by rw [(hh1.right).cell]; rfl
      have b0 : (k : Int) < tr.length := by omega
      have HBX := Lib.hid hbx
      have HBA := Lib.hid hba
      have HH := Lib.hid hh
      have HX := Lib.hid hx
      have hcall : ∀ args w, (callFunc 93 args).run Try.prog w = .ok (.enter 93 args) w := fun args w => by kernel_rfl
      clear cc hh hh1 hbx hba hx
      go_wp2_with fail
      refine (hit_at wr bx ba x addr a HBX.out HBA.out).mono ?_
      rintro e w2 ⟨rfl, hb⟩
      have HH2 := Lib.hid (HH.out.of_below hb)
      clear hb u0 u1 u2 u3 u4 u5 u6 HH
      by_cases hhit : hit x addr a = true
      · rw [hhit]
        have HE : Hid (hitIx x addr tr = k) := hitIx_some HX.out hhit HNO.out
        clear hhit
        go_wp2_with fail
        go_ret
        exact ⟨by rw [HE.out]; rfl, HH2.out⟩
      · have hhit : hit x addr a = false := by simpa using hhit
        rw [hhit]
        have HE : Hid (∀ j b, j < k + 1 → tr[j]? = some b → hit x addr b = false) := fun j b hj hb => by
          by_cases e : j = k
          · subst e; rw [HX.out] at hb; injection hb with hb; subst hb; exact hhit
          · exact HNO.out j b (by omega) hb
        clear hhit
        have hkb : (k : Int) ≤ 1000000 := by have := HLN.out; omega
        go_wp2_with fail
        go_roundw
        case rel => exact ⟨k + 1, by omega, by go_num, HE.out, HH2.out⟩
        case measure => simp [intOf]; omega
    · have hke : k = tr.length := by omega
      have HE : Hid (hitIx x addr tr = -1) := hitIx_none (fun j b hj hb => HNO.out j b (by omega) hb)
      have HH := Lib.hid hh
      clear hh
      go_wp2_with fail
      go_ret
      exact ⟨by rw [HE.out]; rfl, HH.out⟩

end Go.Proofs.Ythifeaigdobonaa
