/- One step of a machine, whatever the task: from what the task's Ready and Step do to what the step does. -/
import Derived.Test.YthifeaigdobonaaDqa
import Derived.Laws.EntriesVeiled
import Derived.Deep.DeepCutAuto
namespace Go.Proofs.Ythifeaigdobonaa
open Go.RowKit

def nilp : Value := .pointer none
/-- What a task may do to the call's row and to the seat's: tell a point, tell an answer. -/
def setPt (cs : Array Value) (o : Nat) : Option Int → Array Value
  | none => cs
  | some p => cs.setIfInBounds (o + 6) (.int .i64 p)
def setAn (ss : Array Value) (o : Nat) : Option (Int × Int) → Array Value
  | none => ss
  | some a => (ss.setIfInBounds o (.int .i64 a.1)).setIfInBounds (o + 1) (.int .i64 a.2)

def GEnv (q : EK) (us : Bool) (words : List Int) (log : List Acc) (G : Hp) (cs ss : Array Value) (S : Hp) : Prop :=
  q.k.cv = .pointer (some ⟨q.gc, q.oc, none⟩) ∧ q.k.tv = .pointer (some ⟨q.gs, q.os, none⟩) ∧ q.oc + 8 < cs.size ∧ q.os + 1 < ss.size ∧
  ∃ Sd, DeskAt q.k us words log Sd ∧ S = Sd + (G + (pt q.gc (.cells cs 66 (0, 0)) + pt q.gs (.cells ss 137 (0, 0))))

def GPost (W : World) (q : EK) (us : Bool) (words : List Int) (log : List Acc) (G : Hp) (cs ss : Array Value) (F : Hp) (r : Value) (e : Ending) (w' : World) : Prop :=
  e = .returned r ∧ ∃ S', GEnv q us words log G cs ss S' ∧ Holds W w' (S' + F)

theorem now_at (W w : World) (bm : Nat) (words : List Int) (log : List Acc) (mv nw : Int) (S F : Hp) (hS : MemR bm words log mv S) (h : Holds W w (S + F)) :
    Calls Try.prog 81 #[.pointer (some ⟨bm, 0, none⟩), .int .i64 nw] w (RPost W bm words log nw F (.tuple #[])) := by
  obtain ⟨ahead, hal, wv, lv, av, Sw, Sl, Sa, hw, hl, ha, rfl⟩ := hS
  have h1 := h.of_eq (show _ = pt bm (.cells #[wv, lv, av, .int .i64 mv] 176 (0, 0)) + (Sw + (Sl + Sa) + F) from by ac_rfl)
  have c3 : w.cell? ⟨bm, 3, none⟩ = some (.int .i64 mv) := by rw [h1.cell]; rfl
  have f3 : w.frozen? ⟨bm, 3, none⟩ = false := h1.free 3
  have HA := Lib.hid hal
  clear hal
  go_enter Try.func81, Try.ntmps81
  go_wp2
  go_end0
  exact ⟨rfl, _, ⟨ahead, HA.out, wv, lv, av, Sw, Sl, Sa, hw, hl, ha, rfl⟩, (h1.set 3 (.int .i64 nw)).of_eq (by simp only [List.setIfInBounds_toArray]; ac_rfl)⟩

/-- What a task is to the machine: the functions behind Ready and Step; what they do, wherever the desk, the calls and the seats lie. -/
structure TaskDoes (W : World) (T : TypeId) (bt : Nat) (th now : Int) (words : List Int) (log : List Acc) (G0 G1 : Hp) (words' : List Int) (log' : List Acc) (G2 : Hp) (p : Option Int) (a : Option (Int × Int)) (over ready : Bool) : Prop where
  kept : ready = true → G1 = G0
  fns : ∃ fR fS, (∀ w, (method 352 T (.pointer (some ⟨bt, 0, none⟩)) "Ready").run Try.prog w = .ok (fR, .pointer (some ⟨bt, 0, none⟩)) w) ∧
    (∀ w, (method 352 T (.pointer (some ⟨bt, 0, none⟩)) "Step").run Try.prog w = .ok (fS, .pointer (some ⟨bt, 0, none⟩)) w) ∧
    (∀ args w, (callFunc fR args).run Try.prog w = .ok (.enter fR args) w) ∧ (∀ args w, (callFunc fS args).run Try.prog w = .ok (.enter fS args) w) ∧
    (ready = false → ∀ (q : EK) (w : World) (S F : Hp) (cs ss : Array Value), q.k.th = th → q.k.nw = now → GEnv q false words log G0 cs ss S → Holds W w (S + F) →
      Calls Try.prog fR #[.pointer (some ⟨bt, 0, none⟩), .pointer (some ⟨q.k.bd, 0, none⟩)] w (GPost W q false words log G1 cs ss F (.bool false))) ∧
    (∀ (q : EK) (w : World) (S F : Hp) (cs ss : Array Value), q.k.th = th → q.k.nw = now → GEnv q false words log G1 cs ss S → Holds W w (S + F) →
      Calls Try.prog fS #[.pointer (some ⟨bt, 0, none⟩), .pointer (some ⟨q.k.bd, 0, none⟩)] w (GPost W q true words' log' G2 (setPt cs q.oc p) (setAn ss q.os a) F (.bool over)))

def StepPost (W : World) (bM bm gc gs t n cap nc capc : Nat) (now moves : Int) (sh kit : Value) (words : List Int) (log : List Acc) (cs ss : Array Value) (G F : Hp) (e : Ending) (w' : World) : Prop :=
  e = .returned (.tuple #[]) ∧ ∃ Sm, MemR bm words log now Sm ∧
    Holds W w' (pt bM (machO bm t now nilp nilp true sh kit (.slice (some ⟨gs, 0, none⟩) n cap) moves (.slice (some ⟨gc, 0, none⟩) nc capc)) + (Sm + (pt gc (.cells cs 66 (0, 0)) + (pt gs (.cells ss 137 (0, 0)) + (G + F)))))

set_option maxHeartbeats 2000000 in
set_option maxRecDepth 100000 in
theorem step_new_goes (W w : World) (bM bm gc gs t n cap last nc capc : Nat) (th0 nw0 mv now moves : Int) (us : Bool) (sh kit : Value) (words : List Int) (log : List Acc) (Sm G0 F : Hp) (cs ss : Array Value) (T : TypeId) (bt : Nat)
    (ht : t < n) (hl : last < nc) (_hn : n ≤ 1000) (_hnc : nc ≤ 100000) (hcs : last * 9 + 8 < cs.size) (hss : t * 5 + 4 < ss.size)
    (s0 : ss[t * 5]? = some (.iface T (.pointer (some ⟨bt, 0, none⟩)))) (s1 : ss[t * 5 + 1]? = some (.bool false)) (s2 : ss[t * 5 + 2]? = some (.int .i64 last))
    (G1 G2 : Hp) (words' : List Int) (log' : List Acc) (p : Option Int) (a : Option (Int × Int))
    (hT : TaskDoes W T bt t now words log G0 G1 words' log' G2 p a false false)
    (hm : MemR bm words log mv Sm)
    (h : Holds W w (pt bM (machO bm th0 nw0 nilp nilp us sh kit (.slice (some ⟨gs, 0, none⟩) n cap) moves (.slice (some ⟨gc, 0, none⟩) nc capc)) + (Sm + (pt gc (.cells cs 66 (0, 0)) + (pt gs (.cells ss 137 (0, 0)) + (G0 + F)))))) :
    Calls Try.prog 55 #[.pointer (some ⟨bM, 0, none⟩), .int .i64 (t : Int), .int .i64 now] w
      (StepPost W bM bm gc gs t n cap nc capc now moves sh kit words' log' (setPt cs (last * 9) p) (setAn (ss.setIfInBounds (t * 5 + 1) (.bool true)) (t * 5 + 3) a) G2 F) := by
  have h1 := h.of_eq (show _ = pt bM (machO bm th0 nw0 nilp nilp us sh kit (.slice (some ⟨gs, 0, none⟩) n cap) moves (.slice (some ⟨gc, 0, none⟩) nc capc)) + (pt gs (.cells ss 137 (0, 0)) + (Sm + (pt gc (.cells cs 66 (0, 0)) + (G0 + F)))) from by ac_rfl)
  have hne := h1.ne
  have h2 := h1.of_eq (show _ = pt gs (.cells ss 137 (0, 0)) + (pt bM (machO bm th0 nw0 nilp nilp us sh kit (.slice (some ⟨gs, 0, none⟩) n cap) moves (.slice (some ⟨gc, 0, none⟩) nc capc)) + (Sm + (pt gc (.cells cs 66 (0, 0)) + (G0 + F)))) from by ac_rfl)
  have h3 := h1.of_eq (show _ = pt gc (.cells cs 66 (0, 0)) + (pt gs (.cells ss 137 (0, 0)) + (pt bM (machO bm th0 nw0 nilp nilp us sh kit (.slice (some ⟨gs, 0, none⟩) n cap) moves (.slice (some ⟨gc, 0, none⟩) nc capc)) + (Sm + (G0 + F)))) from by ac_rfl)
  have hne2 := h3.ne
  have h4 := h1.of_eq (show _ = pt gc (.cells cs 66 (0, 0)) + (pt bM (machO bm th0 nw0 nilp nilp us sh kit (.slice (some ⟨gs, 0, none⟩) n cap) moves (.slice (some ⟨gc, 0, none⟩) nc capc)) + (pt gs (.cells ss 137 (0, 0)) + (Sm + (G0 + F)))) from by ac_rfl)
  have hne3 := h4.ne
  clear h3 h4
  unfold machO at h1
  have c0 : w.cell? ⟨bM, 0, none⟩ = some (.pointer (some ⟨bm, 0, none⟩)) := by rw [h1.cell]; rfl
  have c1 : w.cell? ⟨bM, 1, none⟩ = some (.int .i64 th0) := by rw [h1.cell]; rfl
  have c2 : w.cell? ⟨bM, 2, none⟩ = some (.int .i64 nw0) := by rw [h1.cell]; rfl
  have c3 : w.cell? ⟨bM, 3, none⟩ = some nilp := by rw [h1.cell]; rfl
  have c4 : w.cell? ⟨bM, 4, none⟩ = some nilp := by rw [h1.cell]; rfl
  have c5 : w.cell? ⟨bM, 5, none⟩ = some (.bool us) := by rw [h1.cell]; rfl
  have c8 : w.cell? ⟨bM, 8, none⟩ = some (.slice (some ⟨gs, 0, none⟩) n cap) := by rw [h1.cell]; rfl
  have c10 : w.cell? ⟨bM, 10, none⟩ = some (.slice (some ⟨gc, 0, none⟩) nc capc) := by rw [h1.cell]; rfl
  have f1 := h1.free 1
  have f2 := h1.free 2
  have f3 := h1.free 3
  have f4 := h1.free 4
  have f5 := h1.free 5
  have e2 : w.cell? ⟨gs, t * 5 + 2, none⟩ = some (.int .i64 last) := by rw [h2.cell]; exact s2
  go_enter Try.func55, Try.ntmps55
  go_upto_region 3 with fail
  go_cut [] (fun wx => Holds W wx (pt bM (machO bm t now (.pointer (some ⟨gc, last * 9, none⟩)) (.pointer (some ⟨gs, t * 5 + 3, none⟩)) false sh kit (.slice (some ⟨gs, 0, none⟩) n cap) moves (.slice (some ⟨gc, 0, none⟩) nc capc)) + (pt gs (.cells ss 137 (0, 0)) + (Sm + (pt gc (.cells cs 66 (0, 0)) + (G0 + F))))))
  case first =>
    go_region
    go_wp2_with fail
    go_meet
    exact (((((h1.set 1 _).set 2 _).set 5 _).set 3 _).set 4 _).drew
  case rest =>
    clear h1 h2 c0 c1 c2 c3 c4 c5 c8 c10 f1 f2 f3 f4 f5 e2
    have k1 := hcut
    unfold machO at k1
    have c0 : wc.cell? ⟨bM, 0, none⟩ = some (.pointer (some ⟨bm, 0, none⟩)) := by rw [k1.cell]; rfl
    clear k1
    go_wp2_with fail
    refine (now_at W wc bm words log mv now Sm (pt bM (machO bm t now (.pointer (some ⟨gc, last * 9, none⟩)) (.pointer (some ⟨gs, t * 5 + 3, none⟩)) false sh kit (.slice (some ⟨gs, 0, none⟩) n cap) moves (.slice (some ⟨gc, 0, none⟩) nc capc)) + (pt gs (.cells ss 137 (0, 0)) + (pt gc (.cells cs 66 (0, 0)) + (G0 + F)))) hm (hcut.of_eq (by ac_rfl))).mono ?_
    rintro e w2 ⟨rfl, Sn, hn2, h2⟩
    clear hcut c0
    have k2 := h2.of_eq (show _ = pt gs (.cells ss 137 (0, 0)) + (Sn + (pt bM (machO bm t now (.pointer (some ⟨gc, last * 9, none⟩)) (.pointer (some ⟨gs, t * 5 + 3, none⟩)) false sh kit (.slice (some ⟨gs, 0, none⟩) n cap) moves (.slice (some ⟨gc, 0, none⟩) nc capc)) + (pt gc (.cells cs 66 (0, 0)) + (G0 + F)))) from by ac_rfl)
    have s1' : w2.cell? ⟨gs, t * 5 + 1, none⟩ = some (.bool false) := by rw [k2.cell]; exact s1
    have s0' : w2.cell? ⟨gs, t * 5, none⟩ = some (.iface T (.pointer (some ⟨bt, 0, none⟩))) := by rw [k2.cell]; exact s0
    have fz := k2.free (t * 5 + 1)
    have hlt := k2.lt
    have hlt2 : bM < w2.heap.size := (k2.of_eq (show _ = pt bM (machO bm t now (.pointer (some ⟨gc, last * 9, none⟩)) (.pointer (some ⟨gs, t * 5 + 3, none⟩)) false sh kit (.slice (some ⟨gs, 0, none⟩) n cap) moves (.slice (some ⟨gc, 0, none⟩) nc capc)) + (Sn + (pt gs (.cells ss 137 (0, 0)) + (pt gc (.cells cs 66 (0, 0)) + (G0 + F)))) from by ac_rfl)).lt
    obtain ⟨fR, fS, m1, m2, m3, m4, q1, q2⟩ := hT.fns
    have Q2 := Lib.hid (fun w S F cs ss => q2 { k := { bd := w2.heap.size, bM := bM, bm := bm, th := t, nw := now, cv := .pointer (some ⟨gc, last * 9, none⟩), tv := .pointer (some ⟨gs, t * 5 + 3, none⟩), sh := sh, kit := kit, seats := .slice (some ⟨gs, 0, none⟩) n cap, moves := moves, calls := .slice (some ⟨gc, 0, none⟩) nc capc }, bt := bt, bh := 0, gc := gc, oc := last * 9, gs := gs, os := t * 5 + 3 } w S F cs ss rfl rfl)
    have Q1 := Lib.hid (fun w S F cs ss => q1 rfl { k := { bd := w2.heap.size, bM := bM, bm := bm, th := t, nw := now, cv := .pointer (some ⟨gc, last * 9, none⟩), tv := .pointer (some ⟨gs, t * 5 + 3, none⟩), sh := sh, kit := kit, seats := .slice (some ⟨gs, 0, none⟩) n cap, moves := moves, calls := .slice (some ⟨gc, 0, none⟩) nc capc }, bt := bt, bh := 0, gc := gc, oc := last * 9, gs := gs, os := t * 5 + 3 } w S F cs ss rfl rfl)
    have k3 := (k2.set (t * 5 + 1) (.bool true)).new w2.heap.size (by simp) (.cells #[.pointer (some ⟨bM, 0, none⟩)] 173 (0, 0))
    have hss' : t * 5 + 4 < (ss.setIfInBounds (t * 5 + 1) (.bool true)).size := by simpa using hss
    clear q1 q2 hT h2
    go_wp2_with fail
    refine (Q1.out _ (pt w2.heap.size (.cells #[.pointer (some ⟨bM, 0, none⟩)] 173 (0, 0)) + (pt bM (machO bm t now (.pointer (some ⟨gc, last * 9, none⟩)) (.pointer (some ⟨gs, t * 5 + 3, none⟩)) false sh kit (.slice (some ⟨gs, 0, none⟩) n cap) moves (.slice (some ⟨gc, 0, none⟩) nc capc)) + Sn) + (G0 + (pt gc (.cells cs 66 (0, 0)) + pt gs (.cells (ss.setIfInBounds (t * 5 + 1) (.bool true)) 137 (0, 0))))) F cs (ss.setIfInBounds (t * 5 + 1) (.bool true)) ⟨rfl, rfl, hcs, (by simp at hss' ⊢; omega), _, ⟨Sn, hn2, rfl⟩, rfl⟩ (k3.of_eq (by ac_rfl))).mono ?_
    rintro e w3 ⟨rfl, S3, ⟨_, _, _, _, Sd, hd, rfl⟩, h3⟩
    obtain ⟨Sm3, hm3, rfl⟩ := hd
    have k4 : Holds W w3 (pt w2.heap.size (deskO bM) + (pt bM (machO bm t now (.pointer (some ⟨gc, last * 9, none⟩)) (.pointer (some ⟨gs, t * 5 + 3, none⟩)) false sh kit (.slice (some ⟨gs, 0, none⟩) n cap) moves (.slice (some ⟨gc, 0, none⟩) nc capc)) + Sm3) + (G1 + (pt gc (.cells cs 66 (0, 0)) + pt gs (.cells (ss.setIfInBounds (t * 5 + 1) (.bool true)) 137 (0, 0)))) + F) := h3
    have k5 := k4.of_eq (show _ = pt gs (.cells (ss.setIfInBounds (t * 5 + 1) (.bool true)) 137 (0, 0)) + (pt w2.heap.size (deskO bM) + (pt bM (machO bm t now (.pointer (some ⟨gc, last * 9, none⟩)) (.pointer (some ⟨gs, t * 5 + 3, none⟩)) false sh kit (.slice (some ⟨gs, 0, none⟩) n cap) moves (.slice (some ⟨gc, 0, none⟩) nc capc)) + Sm3) + (G1 + pt gc (.cells cs 66 (0, 0))) + F) from by ac_rfl)
    have s0'' : w3.cell? ⟨gs, t * 5, none⟩ = some (.iface T (.pointer (some ⟨bt, 0, none⟩))) := by rw [k5.cell]; rw [Array.getElem?_setIfInBounds_ne (by omega)]; exact s0
    clear k5 k3 k2 s0' s1' fz hlt hlt2 Q1 m1 m3
    go_wp2_with fail
    refine (Q2.out w3 (pt w2.heap.size (deskO bM) + (pt bM (machO bm t now (.pointer (some ⟨gc, last * 9, none⟩)) (.pointer (some ⟨gs, t * 5 + 3, none⟩)) false sh kit (.slice (some ⟨gs, 0, none⟩) n cap) moves (.slice (some ⟨gc, 0, none⟩) nc capc)) + Sm3) + (G1 + (pt gc (.cells cs 66 (0, 0)) + pt gs (.cells (ss.setIfInBounds (t * 5 + 1) (.bool true)) 137 (0, 0))))) F cs (ss.setIfInBounds (t * 5 + 1) (.bool true)) ⟨rfl, rfl, hcs, (by simp at hss' ⊢; omega), _, ⟨Sm3, hm3, rfl⟩, rfl⟩ k4).mono ?_
    rintro e w4 ⟨rfl, S4, ⟨_, _, _, _, Sd4, hd4, rfl⟩, h4⟩
    obtain ⟨Sm4, hm4, rfl⟩ := hd4
    have k6 : Holds W w4 (pt w2.heap.size (deskO bM) + (pt bM (machO bm t now (.pointer (some ⟨gc, last * 9, none⟩)) (.pointer (some ⟨gs, t * 5 + 3, none⟩)) true sh kit (.slice (some ⟨gs, 0, none⟩) n cap) moves (.slice (some ⟨gc, 0, none⟩) nc capc)) + Sm4) + (G2 + (pt gc (.cells (setPt cs (last * 9) p) 66 (0, 0)) + pt gs (.cells (setAn (ss.setIfInBounds (t * 5 + 1) (.bool true)) (t * 5 + 3) a) 137 (0, 0)))) + F) := h4
    have k7 := k6.of_eq (show _ = pt bM (machO bm t now (.pointer (some ⟨gc, last * 9, none⟩)) (.pointer (some ⟨gs, t * 5 + 3, none⟩)) true sh kit (.slice (some ⟨gs, 0, none⟩) n cap) moves (.slice (some ⟨gc, 0, none⟩) nc capc)) + (pt w2.heap.size (deskO bM) + Sm4 + (G2 + (pt gc (.cells (setPt cs (last * 9) p) 66 (0, 0)) + pt gs (.cells (setAn (ss.setIfInBounds (t * 5 + 1) (.bool true)) (t * 5 + 3) a) 137 (0, 0)))) + F) from by ac_rfl)
    have k8 := k7
    unfold machO at k8
    have d3 : w4.cell? ⟨bM, 3, none⟩ = some (.pointer (some ⟨gc, last * 9, none⟩)) := by rw [k8.cell]; rfl
    have d4 : w4.cell? ⟨bM, 4, none⟩ = some (.pointer (some ⟨gs, t * 5 + 3, none⟩)) := by rw [k8.cell]; rfl
    have f3 := k8.free 3
    have f4 := k8.free 4
    clear h4 k6 k7 s0'' Q2 m2 m4 k4 h3
    go_wp2_with fail
    go_end0
    exact ⟨rfl, Sm4, hm4, (((k8.set 3 nilp).set 4 nilp).of_eq (show _ = (pt bM (machO bm t now nilp nilp true sh kit (.slice (some ⟨gs, 0, none⟩) n cap) moves (.slice (some ⟨gc, 0, none⟩) nc capc)) + (Sm4 + (pt gc (.cells (setPt cs (last * 9) p) 66 (0, 0)) + (pt gs (.cells (setAn (ss.setIfInBounds (t * 5 + 1) (.bool true)) (t * 5 + 3) a) 137 (0, 0)) + (G2 + F))))) + pt w2.heap.size (deskO bM) from by unfold machO; simp only [List.setIfInBounds_toArray]; ac_rfl)).left⟩

set_option maxHeartbeats 2000000 in
set_option maxRecDepth 100000 in
theorem step_new_over (W w : World) (bM bm gc gs t n cap last nc capc : Nat) (th0 nw0 mv now moves : Int) (us : Bool) (sh kit : Value) (words : List Int) (log : List Acc) (Sm G0 F : Hp) (cs ss : Array Value) (T : TypeId) (bt : Nat)
    (ht : t < n) (hl : last < nc) (_hn : n ≤ 1000) (_hnc : nc ≤ 100000) (hcs : last * 9 + 8 < cs.size) (hss : t * 5 + 4 < ss.size)
    (s0 : ss[t * 5]? = some (.iface T (.pointer (some ⟨bt, 0, none⟩)))) (s1 : ss[t * 5 + 1]? = some (.bool false)) (s2 : ss[t * 5 + 2]? = some (.int .i64 last))
    (G1 G2 : Hp) (words' : List Int) (log' : List Acc) (p : Option Int) (a : Option (Int × Int)) (x y : Int) (an1 : (setAn (ss.setIfInBounds (t * 5 + 1) (.bool true)) (t * 5 + 3) a)[t * 5 + 3]? = some (.int .i64 x)) (an2 : (setAn (ss.setIfInBounds (t * 5 + 1) (.bool true)) (t * 5 + 3) a)[t * 5 + 4]? = some (.int .i64 y))
    (hT : TaskDoes W T bt t now words log G0 G1 words' log' G2 p a true false)
    (hm : MemR bm words log mv Sm)
    (h : Holds W w (pt bM (machO bm th0 nw0 nilp nilp us sh kit (.slice (some ⟨gs, 0, none⟩) n cap) moves (.slice (some ⟨gc, 0, none⟩) nc capc)) + (Sm + (pt gc (.cells cs 66 (0, 0)) + (pt gs (.cells ss 137 (0, 0)) + (G0 + F)))))) :
    Calls Try.prog 55 #[.pointer (some ⟨bM, 0, none⟩), .int .i64 (t : Int), .int .i64 now] w
      (StepPost W bM bm gc gs t n cap nc capc now moves sh kit words' log' ((((setPt cs (last * 9) p).setIfInBounds (last * 9 + 5) (.int .i64 now)).setIfInBounds (last * 9 + 7) (.int .i64 x)).setIfInBounds (last * 9 + 8) (.int .i64 y)) ((setAn (ss.setIfInBounds (t * 5 + 1) (.bool true)) (t * 5 + 3) a).setIfInBounds (t * 5) .nilIface) G2 F) := by
  have h1 := h.of_eq (show _ = pt bM (machO bm th0 nw0 nilp nilp us sh kit (.slice (some ⟨gs, 0, none⟩) n cap) moves (.slice (some ⟨gc, 0, none⟩) nc capc)) + (pt gs (.cells ss 137 (0, 0)) + (Sm + (pt gc (.cells cs 66 (0, 0)) + (G0 + F)))) from by ac_rfl)
  have hne := h1.ne
  have h2 := h1.of_eq (show _ = pt gs (.cells ss 137 (0, 0)) + (pt bM (machO bm th0 nw0 nilp nilp us sh kit (.slice (some ⟨gs, 0, none⟩) n cap) moves (.slice (some ⟨gc, 0, none⟩) nc capc)) + (Sm + (pt gc (.cells cs 66 (0, 0)) + (G0 + F)))) from by ac_rfl)
  have h3 := h1.of_eq (show _ = pt gc (.cells cs 66 (0, 0)) + (pt gs (.cells ss 137 (0, 0)) + (pt bM (machO bm th0 nw0 nilp nilp us sh kit (.slice (some ⟨gs, 0, none⟩) n cap) moves (.slice (some ⟨gc, 0, none⟩) nc capc)) + (Sm + (G0 + F)))) from by ac_rfl)
  have hne2 := h3.ne
  have h4 := h1.of_eq (show _ = pt gc (.cells cs 66 (0, 0)) + (pt bM (machO bm th0 nw0 nilp nilp us sh kit (.slice (some ⟨gs, 0, none⟩) n cap) moves (.slice (some ⟨gc, 0, none⟩) nc capc)) + (pt gs (.cells ss 137 (0, 0)) + (Sm + (G0 + F)))) from by ac_rfl)
  have hne3 := h4.ne
  clear h3 h4
  unfold machO at h1
  have c0 : w.cell? ⟨bM, 0, none⟩ = some (.pointer (some ⟨bm, 0, none⟩)) := by rw [h1.cell]; rfl
  have c1 : w.cell? ⟨bM, 1, none⟩ = some (.int .i64 th0) := by rw [h1.cell]; rfl
  have c2 : w.cell? ⟨bM, 2, none⟩ = some (.int .i64 nw0) := by rw [h1.cell]; rfl
  have c3 : w.cell? ⟨bM, 3, none⟩ = some nilp := by rw [h1.cell]; rfl
  have c4 : w.cell? ⟨bM, 4, none⟩ = some nilp := by rw [h1.cell]; rfl
  have c5 : w.cell? ⟨bM, 5, none⟩ = some (.bool us) := by rw [h1.cell]; rfl
  have c8 : w.cell? ⟨bM, 8, none⟩ = some (.slice (some ⟨gs, 0, none⟩) n cap) := by rw [h1.cell]; rfl
  have c10 : w.cell? ⟨bM, 10, none⟩ = some (.slice (some ⟨gc, 0, none⟩) nc capc) := by rw [h1.cell]; rfl
  have f1 := h1.free 1
  have f2 := h1.free 2
  have f3 := h1.free 3
  have f4 := h1.free 4
  have f5 := h1.free 5
  have e2 : w.cell? ⟨gs, t * 5 + 2, none⟩ = some (.int .i64 last) := by rw [h2.cell]; exact s2
  go_enter Try.func55, Try.ntmps55
  go_upto_region 3 with fail
  go_cut [] (fun wx => Holds W wx (pt bM (machO bm t now (.pointer (some ⟨gc, last * 9, none⟩)) (.pointer (some ⟨gs, t * 5 + 3, none⟩)) false sh kit (.slice (some ⟨gs, 0, none⟩) n cap) moves (.slice (some ⟨gc, 0, none⟩) nc capc)) + (pt gs (.cells ss 137 (0, 0)) + (Sm + (pt gc (.cells cs 66 (0, 0)) + (G0 + F))))))
  case first =>
    go_region
    go_wp2_with fail
    go_meet
    exact (((((h1.set 1 _).set 2 _).set 5 _).set 3 _).set 4 _).drew
  case rest =>
    clear h1 h2 c0 c1 c2 c3 c4 c5 c8 c10 f1 f2 f3 f4 f5 e2
    have k1 := hcut
    unfold machO at k1
    have c0 : wc.cell? ⟨bM, 0, none⟩ = some (.pointer (some ⟨bm, 0, none⟩)) := by rw [k1.cell]; rfl
    clear k1
    go_wp2_with fail
    refine (now_at W wc bm words log mv now Sm (pt bM (machO bm t now (.pointer (some ⟨gc, last * 9, none⟩)) (.pointer (some ⟨gs, t * 5 + 3, none⟩)) false sh kit (.slice (some ⟨gs, 0, none⟩) n cap) moves (.slice (some ⟨gc, 0, none⟩) nc capc)) + (pt gs (.cells ss 137 (0, 0)) + (pt gc (.cells cs 66 (0, 0)) + (G0 + F)))) hm (hcut.of_eq (by ac_rfl))).mono ?_
    rintro e w2 ⟨rfl, Sn, hn2, h2⟩
    clear hcut c0
    have k2 := h2.of_eq (show _ = pt gs (.cells ss 137 (0, 0)) + (Sn + (pt bM (machO bm t now (.pointer (some ⟨gc, last * 9, none⟩)) (.pointer (some ⟨gs, t * 5 + 3, none⟩)) false sh kit (.slice (some ⟨gs, 0, none⟩) n cap) moves (.slice (some ⟨gc, 0, none⟩) nc capc)) + (pt gc (.cells cs 66 (0, 0)) + (G0 + F)))) from by ac_rfl)
    have s1' : w2.cell? ⟨gs, t * 5 + 1, none⟩ = some (.bool false) := by rw [k2.cell]; exact s1
    have s0' : w2.cell? ⟨gs, t * 5, none⟩ = some (.iface T (.pointer (some ⟨bt, 0, none⟩))) := by rw [k2.cell]; exact s0
    have fz := k2.free (t * 5 + 1)
    have hlt := k2.lt
    have hlt2 : bM < w2.heap.size := (k2.of_eq (show _ = pt bM (machO bm t now (.pointer (some ⟨gc, last * 9, none⟩)) (.pointer (some ⟨gs, t * 5 + 3, none⟩)) false sh kit (.slice (some ⟨gs, 0, none⟩) n cap) moves (.slice (some ⟨gc, 0, none⟩) nc capc)) + (Sn + (pt gs (.cells ss 137 (0, 0)) + (pt gc (.cells cs 66 (0, 0)) + (G0 + F)))) from by ac_rfl)).lt
    obtain ⟨fR, fS, m1, m2, m3, m4, q1, q2⟩ := hT.fns
    have Q2 := Lib.hid (fun w S F cs ss => q2 { k := { bd := w2.heap.size, bM := bM, bm := bm, th := t, nw := now, cv := .pointer (some ⟨gc, last * 9, none⟩), tv := .pointer (some ⟨gs, t * 5 + 3, none⟩), sh := sh, kit := kit, seats := .slice (some ⟨gs, 0, none⟩) n cap, moves := moves, calls := .slice (some ⟨gc, 0, none⟩) nc capc }, bt := bt, bh := 0, gc := gc, oc := last * 9, gs := gs, os := t * 5 + 3 } w S F cs ss rfl rfl)
    have Q1 := Lib.hid (fun w S F cs ss => q1 rfl { k := { bd := w2.heap.size, bM := bM, bm := bm, th := t, nw := now, cv := .pointer (some ⟨gc, last * 9, none⟩), tv := .pointer (some ⟨gs, t * 5 + 3, none⟩), sh := sh, kit := kit, seats := .slice (some ⟨gs, 0, none⟩) n cap, moves := moves, calls := .slice (some ⟨gc, 0, none⟩) nc capc }, bt := bt, bh := 0, gc := gc, oc := last * 9, gs := gs, os := t * 5 + 3 } w S F cs ss rfl rfl)
    have k3 := (k2.set (t * 5 + 1) (.bool true)).new w2.heap.size (by simp) (.cells #[.pointer (some ⟨bM, 0, none⟩)] 173 (0, 0))
    have hss' : t * 5 + 4 < (ss.setIfInBounds (t * 5 + 1) (.bool true)).size := by simpa using hss
    clear q1 q2 hT h2
    go_wp2_with fail
    refine (Q1.out _ (pt w2.heap.size (.cells #[.pointer (some ⟨bM, 0, none⟩)] 173 (0, 0)) + (pt bM (machO bm t now (.pointer (some ⟨gc, last * 9, none⟩)) (.pointer (some ⟨gs, t * 5 + 3, none⟩)) false sh kit (.slice (some ⟨gs, 0, none⟩) n cap) moves (.slice (some ⟨gc, 0, none⟩) nc capc)) + Sn) + (G0 + (pt gc (.cells cs 66 (0, 0)) + pt gs (.cells (ss.setIfInBounds (t * 5 + 1) (.bool true)) 137 (0, 0))))) F cs (ss.setIfInBounds (t * 5 + 1) (.bool true)) ⟨rfl, rfl, hcs, (by simp at hss' ⊢; omega), _, ⟨Sn, hn2, rfl⟩, rfl⟩ (k3.of_eq (by ac_rfl))).mono ?_
    rintro e w3 ⟨rfl, S3, ⟨_, _, _, _, Sd, hd, rfl⟩, h3⟩
    obtain ⟨Sm3, hm3, rfl⟩ := hd
    have k4 : Holds W w3 (pt w2.heap.size (deskO bM) + (pt bM (machO bm t now (.pointer (some ⟨gc, last * 9, none⟩)) (.pointer (some ⟨gs, t * 5 + 3, none⟩)) false sh kit (.slice (some ⟨gs, 0, none⟩) n cap) moves (.slice (some ⟨gc, 0, none⟩) nc capc)) + Sm3) + (G1 + (pt gc (.cells cs 66 (0, 0)) + pt gs (.cells (ss.setIfInBounds (t * 5 + 1) (.bool true)) 137 (0, 0)))) + F) := h3
    have k5 := k4.of_eq (show _ = pt gs (.cells (ss.setIfInBounds (t * 5 + 1) (.bool true)) 137 (0, 0)) + (pt w2.heap.size (deskO bM) + (pt bM (machO bm t now (.pointer (some ⟨gc, last * 9, none⟩)) (.pointer (some ⟨gs, t * 5 + 3, none⟩)) false sh kit (.slice (some ⟨gs, 0, none⟩) n cap) moves (.slice (some ⟨gc, 0, none⟩) nc capc)) + Sm3) + (G1 + pt gc (.cells cs 66 (0, 0))) + F) from by ac_rfl)
    have s0'' : w3.cell? ⟨gs, t * 5, none⟩ = some (.iface T (.pointer (some ⟨bt, 0, none⟩))) := by rw [k5.cell]; rw [Array.getElem?_setIfInBounds_ne (by omega)]; exact s0
    clear k5 k3 k2 s0' s1' fz hlt hlt2 Q1 m1 m3
    go_wp2_with fail
    refine (Q2.out w3 (pt w2.heap.size (deskO bM) + (pt bM (machO bm t now (.pointer (some ⟨gc, last * 9, none⟩)) (.pointer (some ⟨gs, t * 5 + 3, none⟩)) false sh kit (.slice (some ⟨gs, 0, none⟩) n cap) moves (.slice (some ⟨gc, 0, none⟩) nc capc)) + Sm3) + (G1 + (pt gc (.cells cs 66 (0, 0)) + pt gs (.cells (ss.setIfInBounds (t * 5 + 1) (.bool true)) 137 (0, 0))))) F cs (ss.setIfInBounds (t * 5 + 1) (.bool true)) ⟨rfl, rfl, hcs, (by simp at hss' ⊢; omega), _, ⟨Sm3, hm3, rfl⟩, rfl⟩ k4).mono ?_
    rintro e w4 ⟨rfl, S4, ⟨_, _, _, _, Sd4, hd4, rfl⟩, h4⟩
    obtain ⟨Sm4, hm4, rfl⟩ := hd4
    have k6 : Holds W w4 (pt w2.heap.size (deskO bM) + (pt bM (machO bm t now (.pointer (some ⟨gc, last * 9, none⟩)) (.pointer (some ⟨gs, t * 5 + 3, none⟩)) true sh kit (.slice (some ⟨gs, 0, none⟩) n cap) moves (.slice (some ⟨gc, 0, none⟩) nc capc)) + Sm4) + (G2 + (pt gc (.cells (setPt cs (last * 9) p) 66 (0, 0)) + pt gs (.cells (setAn (ss.setIfInBounds (t * 5 + 1) (.bool true)) (t * 5 + 3) a) 137 (0, 0)))) + F) := h4
    have k7 := k6.of_eq (show _ = pt bM (machO bm t now (.pointer (some ⟨gc, last * 9, none⟩)) (.pointer (some ⟨gs, t * 5 + 3, none⟩)) true sh kit (.slice (some ⟨gs, 0, none⟩) n cap) moves (.slice (some ⟨gc, 0, none⟩) nc capc)) + (pt w2.heap.size (deskO bM) + Sm4 + (G2 + (pt gc (.cells (setPt cs (last * 9) p) 66 (0, 0)) + pt gs (.cells (setAn (ss.setIfInBounds (t * 5 + 1) (.bool true)) (t * 5 + 3) a) 137 (0, 0)))) + F) from by ac_rfl)
    have k8 := k7
    unfold machO at k8
    have d3 : w4.cell? ⟨bM, 3, none⟩ = some (.pointer (some ⟨gc, last * 9, none⟩)) := by rw [k8.cell]; rfl
    have d4 : w4.cell? ⟨bM, 4, none⟩ = some (.pointer (some ⟨gs, t * 5 + 3, none⟩)) := by rw [k8.cell]; rfl
    have f3 := k8.free 3
    have f4 := k8.free 4
    have k9 := k6.of_eq (show _ = pt gs (.cells (setAn (ss.setIfInBounds (t * 5 + 1) (.bool true)) (t * 5 + 3) a) 137 (0, 0)) + (pt bM (machO bm t now (.pointer (some ⟨gc, last * 9, none⟩)) (.pointer (some ⟨gs, t * 5 + 3, none⟩)) true sh kit (.slice (some ⟨gs, 0, none⟩) n cap) moves (.slice (some ⟨gc, 0, none⟩) nc capc)) + (pt w2.heap.size (deskO bM) + Sm4 + (G2 + pt gc (.cells (setPt cs (last * 9) p) 66 (0, 0))) + F)) from by ac_rfl)
    have k10 := k6.of_eq (show _ = pt gc (.cells (setPt cs (last * 9) p) 66 (0, 0)) + (pt gs (.cells (setAn (ss.setIfInBounds (t * 5 + 1) (.bool true)) (t * 5 + 3) a) 137 (0, 0)) + (pt bM (machO bm t now (.pointer (some ⟨gc, last * 9, none⟩)) (.pointer (some ⟨gs, t * 5 + 3, none⟩)) true sh kit (.slice (some ⟨gs, 0, none⟩) n cap) moves (.slice (some ⟨gc, 0, none⟩) nc capc)) + (pt w2.heap.size (deskO bM) + Sm4 + G2 + F))) from by ac_rfl)
    have hz : last * 9 + 8 < (setPt cs (last * 9) p).size := by cases p <;> simpa [setPt] using hcs
    have hz2 : t * 5 + 4 < (setAn (ss.setIfInBounds (t * 5 + 1) (.bool true)) (t * 5 + 3) a).size := by cases a <;> simpa [setAn] using hss'
    have hs2 : (setAn (ss.setIfInBounds (t * 5 + 1) (.bool true)) (t * 5 + 3) a)[t * 5 + 2]? = some (.int .i64 last) := by
      have e0 : (ss.setIfInBounds (t * 5 + 1) (.bool true))[t * 5 + 2]? = some (.int .i64 last) := by first | exact s2 | (rw [Array.getElem?_setIfInBounds_ne (by omega)]; exact s2)
      cases a with
      | none => exact e0
      | some a => simp only [setAn]; rw [Array.getElem?_setIfInBounds_ne (by omega), Array.getElem?_setIfInBounds_ne (by omega)]; exact e0
    have d10 : w4.cell? ⟨bM, 10, none⟩ = some (.slice (some ⟨gc, 0, none⟩) nc capc) := by rw [k8.cell]; rfl
    have b2 : w4.cell? ⟨gs, t * 5 + 2, none⟩ = some (.int .i64 last) := by rw [k9.cell]; exact hs2
    have b3 : w4.cell? ⟨gs, t * 5 + 3, none⟩ = some (.int .i64 x) := by rw [k9.cell]; exact an1
    have b4 : w4.cell? ⟨gs, t * 5 + 4, none⟩ = some (.int .i64 y) := by rw [k9.cell]; exact an2
    have b0 : w4.cell? ⟨gs, t * 5, none⟩ = some ((setAn (ss.setIfInBounds (t * 5 + 1) (.bool true)) (t * 5 + 3) a)[t * 5]) := by rw [k9.cell]; simp [show t * 5 < (setAn (ss.setIfInBounds (t * 5 + 1) (.bool true)) (t * 5 + 3) a).size by omega]
    have fs0 := k9.free (t * 5)
    have a5 : w4.cell? ⟨gc, last * 9 + 5, none⟩ = some ((setPt cs (last * 9) p)[last * 9 + 5]) := by rw [k10.cell]; simp [show last * 9 + 5 < (setPt cs (last * 9) p).size by omega]
    have a7 : w4.cell? ⟨gc, last * 9 + 7, none⟩ = some ((setPt cs (last * 9) p)[last * 9 + 7]) := by rw [k10.cell]; simp [show last * 9 + 7 < (setPt cs (last * 9) p).size by omega]
    have a8 : w4.cell? ⟨gc, last * 9 + 8, none⟩ = some ((setPt cs (last * 9) p)[last * 9 + 8]) := by rw [k10.cell]; simp [hz]
    have g5 := k10.free (last * 9 + 5)
    have g7 := k10.free (last * 9 + 7)
    have g8 := k10.free (last * 9 + 8)
    generalize (setPt cs (last * 9) p)[last * 9 + 5] = v5 at a5
    generalize (setPt cs (last * 9) p)[last * 9 + 7] = v7 at a7
    generalize (setPt cs (last * 9) p)[last * 9 + 8] = v8 at a8
    generalize (setAn (ss.setIfInBounds (t * 5 + 1) (.bool true)) (t * 5 + 3) a)[t * 5] = v0 at b0
    have K := Lib.hid k10
    clear h4 k6 k7 k8 k9 k10 hz hz2 hs2 an1 an2 s0'' Q2 m2 m4 k4 h3 s0 s1 s2 hss' hss hcs
    go_upto_region 13 with fail
    go_region
    go_upto_region 14 with fail
    go_region
    go_wp2_with fail
    go_end0
    have K1 := ((K.out.set (last * 9 + 5) (.int .i64 now)).set (last * 9 + 7) (.int .i64 x)).set (last * 9 + 8) (.int .i64 y)
    have K2 := (K1.of_eq (show _ = pt gs (.cells (setAn (ss.setIfInBounds (t * 5 + 1) (.bool true)) (t * 5 + 3) a) 137 (0, 0)) + (pt bM (machO bm t now (.pointer (some ⟨gc, last * 9, none⟩)) (.pointer (some ⟨gs, t * 5 + 3, none⟩)) true sh kit (.slice (some ⟨gs, 0, none⟩) n cap) moves (.slice (some ⟨gc, 0, none⟩) nc capc)) + (pt w2.heap.size (deskO bM) + Sm4 + (G2 + pt gc (.cells ((((setPt cs (last * 9) p).setIfInBounds (last * 9 + 5) (.int .i64 now)).setIfInBounds (last * 9 + 7) (.int .i64 x)).setIfInBounds (last * 9 + 8) (.int .i64 y)) 66 (0, 0))) + F)) from by ac_rfl)).set (t * 5) .nilIface
    have K3 := K2.of_eq (show _ = pt bM (machO bm t now (.pointer (some ⟨gc, last * 9, none⟩)) (.pointer (some ⟨gs, t * 5 + 3, none⟩)) true sh kit (.slice (some ⟨gs, 0, none⟩) n cap) moves (.slice (some ⟨gc, 0, none⟩) nc capc)) + (pt w2.heap.size (deskO bM) + Sm4 + (G2 + (pt gc (.cells ((((setPt cs (last * 9) p).setIfInBounds (last * 9 + 5) (.int .i64 now)).setIfInBounds (last * 9 + 7) (.int .i64 x)).setIfInBounds (last * 9 + 8) (.int .i64 y)) 66 (0, 0)) + pt gs (.cells ((setAn (ss.setIfInBounds (t * 5 + 1) (.bool true)) (t * 5 + 3) a).setIfInBounds (t * 5) .nilIface) 137 (0, 0)))) + F) from by ac_rfl)
    unfold machO at K3
    have K4 := ((K3.set 3 nilp).set 4 nilp).drew.drew
    exact ⟨rfl, Sm4, hm4, (K4.of_eq (show _ = (pt bM (machO bm t now nilp nilp true sh kit (.slice (some ⟨gs, 0, none⟩) n cap) moves (.slice (some ⟨gc, 0, none⟩) nc capc)) + (Sm4 + (pt gc (.cells ((((setPt cs (last * 9) p).setIfInBounds (last * 9 + 5) (.int .i64 now)).setIfInBounds (last * 9 + 7) (.int .i64 x)).setIfInBounds (last * 9 + 8) (.int .i64 y)) 66 (0, 0)) + (pt gs (.cells ((setAn (ss.setIfInBounds (t * 5 + 1) (.bool true)) (t * 5 + 3) a).setIfInBounds (t * 5) .nilIface) 137 (0, 0)) + (G2 + F))))) + pt w2.heap.size (deskO bM) from by unfold machO; simp only [List.setIfInBounds_toArray]; ac_rfl)).left⟩

set_option maxHeartbeats 2000000 in
set_option maxRecDepth 100000 in
theorem step_on_goes (W w : World) (bM bm gc gs t n cap last nc capc : Nat) (th0 nw0 mv now moves : Int) (us : Bool) (sh kit : Value) (words : List Int) (log : List Acc) (Sm G0 F : Hp) (cs ss : Array Value) (T : TypeId) (bt : Nat)
    (ht : t < n) (hl : last < nc) (_hn : n ≤ 1000) (_hnc : nc ≤ 100000) (hcs : last * 9 + 8 < cs.size) (hss : t * 5 + 4 < ss.size)
    (s0 : ss[t * 5]? = some (.iface T (.pointer (some ⟨bt, 0, none⟩)))) (s1 : ss[t * 5 + 1]? = some (.bool true)) (s2 : ss[t * 5 + 2]? = some (.int .i64 last))
    (G1 G2 : Hp) (words' : List Int) (log' : List Acc) (p : Option Int) (a : Option (Int × Int))
    (hT : TaskDoes W T bt t now words log G0 G1 words' log' G2 p a false true)
    (hm : MemR bm words log mv Sm)
    (h : Holds W w (pt bM (machO bm th0 nw0 nilp nilp us sh kit (.slice (some ⟨gs, 0, none⟩) n cap) moves (.slice (some ⟨gc, 0, none⟩) nc capc)) + (Sm + (pt gc (.cells cs 66 (0, 0)) + (pt gs (.cells ss 137 (0, 0)) + (G0 + F)))))) :
    Calls Try.prog 55 #[.pointer (some ⟨bM, 0, none⟩), .int .i64 (t : Int), .int .i64 now] w
      (StepPost W bM bm gc gs t n cap nc capc now moves sh kit words' log' (setPt cs (last * 9) p) (setAn ss (t * 5 + 3) a) G2 F) := by
  have h1 := h.of_eq (show _ = pt bM (machO bm th0 nw0 nilp nilp us sh kit (.slice (some ⟨gs, 0, none⟩) n cap) moves (.slice (some ⟨gc, 0, none⟩) nc capc)) + (pt gs (.cells ss 137 (0, 0)) + (Sm + (pt gc (.cells cs 66 (0, 0)) + (G0 + F)))) from by ac_rfl)
  have hne := h1.ne
  have h2 := h1.of_eq (show _ = pt gs (.cells ss 137 (0, 0)) + (pt bM (machO bm th0 nw0 nilp nilp us sh kit (.slice (some ⟨gs, 0, none⟩) n cap) moves (.slice (some ⟨gc, 0, none⟩) nc capc)) + (Sm + (pt gc (.cells cs 66 (0, 0)) + (G0 + F)))) from by ac_rfl)
  have h3 := h1.of_eq (show _ = pt gc (.cells cs 66 (0, 0)) + (pt gs (.cells ss 137 (0, 0)) + (pt bM (machO bm th0 nw0 nilp nilp us sh kit (.slice (some ⟨gs, 0, none⟩) n cap) moves (.slice (some ⟨gc, 0, none⟩) nc capc)) + (Sm + (G0 + F)))) from by ac_rfl)
  have hne2 := h3.ne
  have h4 := h1.of_eq (show _ = pt gc (.cells cs 66 (0, 0)) + (pt bM (machO bm th0 nw0 nilp nilp us sh kit (.slice (some ⟨gs, 0, none⟩) n cap) moves (.slice (some ⟨gc, 0, none⟩) nc capc)) + (pt gs (.cells ss 137 (0, 0)) + (Sm + (G0 + F)))) from by ac_rfl)
  have hne3 := h4.ne
  clear h3 h4
  unfold machO at h1
  have c0 : w.cell? ⟨bM, 0, none⟩ = some (.pointer (some ⟨bm, 0, none⟩)) := by rw [h1.cell]; rfl
  have c1 : w.cell? ⟨bM, 1, none⟩ = some (.int .i64 th0) := by rw [h1.cell]; rfl
  have c2 : w.cell? ⟨bM, 2, none⟩ = some (.int .i64 nw0) := by rw [h1.cell]; rfl
  have c3 : w.cell? ⟨bM, 3, none⟩ = some nilp := by rw [h1.cell]; rfl
  have c4 : w.cell? ⟨bM, 4, none⟩ = some nilp := by rw [h1.cell]; rfl
  have c5 : w.cell? ⟨bM, 5, none⟩ = some (.bool us) := by rw [h1.cell]; rfl
  have c8 : w.cell? ⟨bM, 8, none⟩ = some (.slice (some ⟨gs, 0, none⟩) n cap) := by rw [h1.cell]; rfl
  have c10 : w.cell? ⟨bM, 10, none⟩ = some (.slice (some ⟨gc, 0, none⟩) nc capc) := by rw [h1.cell]; rfl
  have f1 := h1.free 1
  have f2 := h1.free 2
  have f3 := h1.free 3
  have f4 := h1.free 4
  have f5 := h1.free 5
  have e2 : w.cell? ⟨gs, t * 5 + 2, none⟩ = some (.int .i64 last) := by rw [h2.cell]; exact s2
  go_enter Try.func55, Try.ntmps55
  go_upto_region 3 with fail
  go_cut [] (fun wx => Holds W wx (pt bM (machO bm t now (.pointer (some ⟨gc, last * 9, none⟩)) (.pointer (some ⟨gs, t * 5 + 3, none⟩)) false sh kit (.slice (some ⟨gs, 0, none⟩) n cap) moves (.slice (some ⟨gc, 0, none⟩) nc capc)) + (pt gs (.cells ss 137 (0, 0)) + (Sm + (pt gc (.cells cs 66 (0, 0)) + (G0 + F))))))
  case first =>
    go_region
    go_wp2_with fail
    go_meet
    exact (((((h1.set 1 _).set 2 _).set 5 _).set 3 _).set 4 _).drew
  case rest =>
    clear h1 h2 c0 c1 c2 c3 c4 c5 c8 c10 f1 f2 f3 f4 f5 e2
    have k1 := hcut
    unfold machO at k1
    have c0 : wc.cell? ⟨bM, 0, none⟩ = some (.pointer (some ⟨bm, 0, none⟩)) := by rw [k1.cell]; rfl
    clear k1
    go_wp2_with fail
    refine (now_at W wc bm words log mv now Sm (pt bM (machO bm t now (.pointer (some ⟨gc, last * 9, none⟩)) (.pointer (some ⟨gs, t * 5 + 3, none⟩)) false sh kit (.slice (some ⟨gs, 0, none⟩) n cap) moves (.slice (some ⟨gc, 0, none⟩) nc capc)) + (pt gs (.cells ss 137 (0, 0)) + (pt gc (.cells cs 66 (0, 0)) + (G0 + F)))) hm (hcut.of_eq (by ac_rfl))).mono ?_
    rintro e w2 ⟨rfl, Sn, hn2, h2⟩
    clear hcut c0
    have k2 := h2.of_eq (show _ = pt gs (.cells ss 137 (0, 0)) + (Sn + (pt bM (machO bm t now (.pointer (some ⟨gc, last * 9, none⟩)) (.pointer (some ⟨gs, t * 5 + 3, none⟩)) false sh kit (.slice (some ⟨gs, 0, none⟩) n cap) moves (.slice (some ⟨gc, 0, none⟩) nc capc)) + (pt gc (.cells cs 66 (0, 0)) + (G0 + F)))) from by ac_rfl)
    have s1' : w2.cell? ⟨gs, t * 5 + 1, none⟩ = some (.bool true) := by rw [k2.cell]; exact s1
    have s0' : w2.cell? ⟨gs, t * 5, none⟩ = some (.iface T (.pointer (some ⟨bt, 0, none⟩))) := by rw [k2.cell]; exact s0
    have fz := k2.free (t * 5 + 1)
    have hlt := k2.lt
    have hlt2 : bM < w2.heap.size := (k2.of_eq (show _ = pt bM (machO bm t now (.pointer (some ⟨gc, last * 9, none⟩)) (.pointer (some ⟨gs, t * 5 + 3, none⟩)) false sh kit (.slice (some ⟨gs, 0, none⟩) n cap) moves (.slice (some ⟨gc, 0, none⟩) nc capc)) + (Sn + (pt gs (.cells ss 137 (0, 0)) + (pt gc (.cells cs 66 (0, 0)) + (G0 + F)))) from by ac_rfl)).lt
    obtain ⟨fR, fS, m1, m2, m3, m4, q1, q2⟩ := hT.fns
    have Q2 := Lib.hid (fun w S F cs ss => q2 { k := { bd := w2.heap.size, bM := bM, bm := bm, th := t, nw := now, cv := .pointer (some ⟨gc, last * 9, none⟩), tv := .pointer (some ⟨gs, t * 5 + 3, none⟩), sh := sh, kit := kit, seats := .slice (some ⟨gs, 0, none⟩) n cap, moves := moves, calls := .slice (some ⟨gc, 0, none⟩) nc capc }, bt := bt, bh := 0, gc := gc, oc := last * 9, gs := gs, os := t * 5 + 3 } w S F cs ss rfl rfl)
    have hk := hT.kept rfl
    subst hk
    have k3 := k2.new w2.heap.size (by simp) (.cells #[.pointer (some ⟨bM, 0, none⟩)] 173 (0, 0))
    have hss' : t * 5 + 4 < ss.size := hss
    clear q1 q2 hT h2
    go_wp2_with fail
    refine (Q2.out _ (pt w2.heap.size (.cells #[.pointer (some ⟨bM, 0, none⟩)] 173 (0, 0)) + (pt bM (machO bm t now (.pointer (some ⟨gc, last * 9, none⟩)) (.pointer (some ⟨gs, t * 5 + 3, none⟩)) false sh kit (.slice (some ⟨gs, 0, none⟩) n cap) moves (.slice (some ⟨gc, 0, none⟩) nc capc)) + Sn) + (G1 + (pt gc (.cells cs 66 (0, 0)) + pt gs (.cells ss 137 (0, 0))))) F cs ss ⟨rfl, rfl, hcs, (by simp at hss' ⊢; omega), _, ⟨Sn, hn2, rfl⟩, rfl⟩ (k3.of_eq (by ac_rfl))).mono ?_
    rintro e w4 ⟨rfl, S4, ⟨_, _, _, _, Sd4, hd4, rfl⟩, h4⟩
    obtain ⟨Sm4, hm4, rfl⟩ := hd4
    have k6 : Holds W w4 (pt w2.heap.size (deskO bM) + (pt bM (machO bm t now (.pointer (some ⟨gc, last * 9, none⟩)) (.pointer (some ⟨gs, t * 5 + 3, none⟩)) true sh kit (.slice (some ⟨gs, 0, none⟩) n cap) moves (.slice (some ⟨gc, 0, none⟩) nc capc)) + Sm4) + (G2 + (pt gc (.cells (setPt cs (last * 9) p) 66 (0, 0)) + pt gs (.cells (setAn ss (t * 5 + 3) a) 137 (0, 0)))) + F) := h4
    have k7 := k6.of_eq (show _ = pt bM (machO bm t now (.pointer (some ⟨gc, last * 9, none⟩)) (.pointer (some ⟨gs, t * 5 + 3, none⟩)) true sh kit (.slice (some ⟨gs, 0, none⟩) n cap) moves (.slice (some ⟨gc, 0, none⟩) nc capc)) + (pt w2.heap.size (deskO bM) + Sm4 + (G2 + (pt gc (.cells (setPt cs (last * 9) p) 66 (0, 0)) + pt gs (.cells (setAn ss (t * 5 + 3) a) 137 (0, 0)))) + F) from by ac_rfl)
    have k8 := k7
    unfold machO at k8
    have d3 : w4.cell? ⟨bM, 3, none⟩ = some (.pointer (some ⟨gc, last * 9, none⟩)) := by rw [k8.cell]; rfl
    have d4 : w4.cell? ⟨bM, 4, none⟩ = some (.pointer (some ⟨gs, t * 5 + 3, none⟩)) := by rw [k8.cell]; rfl
    have f3 := k8.free 3
    have f4 := k8.free 4
    clear h4 k6 k7 s0' s1' fz hlt hlt2 m1 m3 Q2 m2 m4 k2 k3
    go_wp2_with fail
    go_end0
    exact ⟨rfl, Sm4, hm4, (((k8.set 3 nilp).set 4 nilp).of_eq (show _ = (pt bM (machO bm t now nilp nilp true sh kit (.slice (some ⟨gs, 0, none⟩) n cap) moves (.slice (some ⟨gc, 0, none⟩) nc capc)) + (Sm4 + (pt gc (.cells (setPt cs (last * 9) p) 66 (0, 0)) + (pt gs (.cells (setAn ss (t * 5 + 3) a) 137 (0, 0)) + (G2 + F))))) + pt w2.heap.size (deskO bM) from by unfold machO; simp only [List.setIfInBounds_toArray]; ac_rfl)).left⟩

set_option maxHeartbeats 2000000 in
set_option maxRecDepth 100000 in
theorem step_on_over (W w : World) (bM bm gc gs t n cap last nc capc : Nat) (th0 nw0 mv now moves : Int) (us : Bool) (sh kit : Value) (words : List Int) (log : List Acc) (Sm G0 F : Hp) (cs ss : Array Value) (T : TypeId) (bt : Nat)
    (ht : t < n) (hl : last < nc) (_hn : n ≤ 1000) (_hnc : nc ≤ 100000) (hcs : last * 9 + 8 < cs.size) (hss : t * 5 + 4 < ss.size)
    (s0 : ss[t * 5]? = some (.iface T (.pointer (some ⟨bt, 0, none⟩)))) (s1 : ss[t * 5 + 1]? = some (.bool true)) (s2 : ss[t * 5 + 2]? = some (.int .i64 last))
    (G1 G2 : Hp) (words' : List Int) (log' : List Acc) (p : Option Int) (a : Option (Int × Int)) (x y : Int) (an1 : (setAn ss (t * 5 + 3) a)[t * 5 + 3]? = some (.int .i64 x)) (an2 : (setAn ss (t * 5 + 3) a)[t * 5 + 4]? = some (.int .i64 y))
    (hT : TaskDoes W T bt t now words log G0 G1 words' log' G2 p a true true)
    (hm : MemR bm words log mv Sm)
    (h : Holds W w (pt bM (machO bm th0 nw0 nilp nilp us sh kit (.slice (some ⟨gs, 0, none⟩) n cap) moves (.slice (some ⟨gc, 0, none⟩) nc capc)) + (Sm + (pt gc (.cells cs 66 (0, 0)) + (pt gs (.cells ss 137 (0, 0)) + (G0 + F)))))) :
    Calls Try.prog 55 #[.pointer (some ⟨bM, 0, none⟩), .int .i64 (t : Int), .int .i64 now] w
      (StepPost W bM bm gc gs t n cap nc capc now moves sh kit words' log' ((((setPt cs (last * 9) p).setIfInBounds (last * 9 + 5) (.int .i64 now)).setIfInBounds (last * 9 + 7) (.int .i64 x)).setIfInBounds (last * 9 + 8) (.int .i64 y)) ((setAn ss (t * 5 + 3) a).setIfInBounds (t * 5) .nilIface) G2 F) := by
  have h1 := h.of_eq (show _ = pt bM (machO bm th0 nw0 nilp nilp us sh kit (.slice (some ⟨gs, 0, none⟩) n cap) moves (.slice (some ⟨gc, 0, none⟩) nc capc)) + (pt gs (.cells ss 137 (0, 0)) + (Sm + (pt gc (.cells cs 66 (0, 0)) + (G0 + F)))) from by ac_rfl)
  have hne := h1.ne
  have h2 := h1.of_eq (show _ = pt gs (.cells ss 137 (0, 0)) + (pt bM (machO bm th0 nw0 nilp nilp us sh kit (.slice (some ⟨gs, 0, none⟩) n cap) moves (.slice (some ⟨gc, 0, none⟩) nc capc)) + (Sm + (pt gc (.cells cs 66 (0, 0)) + (G0 + F)))) from by ac_rfl)
  have h3 := h1.of_eq (show _ = pt gc (.cells cs 66 (0, 0)) + (pt gs (.cells ss 137 (0, 0)) + (pt bM (machO bm th0 nw0 nilp nilp us sh kit (.slice (some ⟨gs, 0, none⟩) n cap) moves (.slice (some ⟨gc, 0, none⟩) nc capc)) + (Sm + (G0 + F)))) from by ac_rfl)
  have hne2 := h3.ne
  have h4 := h1.of_eq (show _ = pt gc (.cells cs 66 (0, 0)) + (pt bM (machO bm th0 nw0 nilp nilp us sh kit (.slice (some ⟨gs, 0, none⟩) n cap) moves (.slice (some ⟨gc, 0, none⟩) nc capc)) + (pt gs (.cells ss 137 (0, 0)) + (Sm + (G0 + F)))) from by ac_rfl)
  have hne3 := h4.ne
  clear h3 h4
  unfold machO at h1
  have c0 : w.cell? ⟨bM, 0, none⟩ = some (.pointer (some ⟨bm, 0, none⟩)) := by rw [h1.cell]; rfl
  have c1 : w.cell? ⟨bM, 1, none⟩ = some (.int .i64 th0) := by rw [h1.cell]; rfl
  have c2 : w.cell? ⟨bM, 2, none⟩ = some (.int .i64 nw0) := by rw [h1.cell]; rfl
  have c3 : w.cell? ⟨bM, 3, none⟩ = some nilp := by rw [h1.cell]; rfl
  have c4 : w.cell? ⟨bM, 4, none⟩ = some nilp := by rw [h1.cell]; rfl
  have c5 : w.cell? ⟨bM, 5, none⟩ = some (.bool us) := by rw [h1.cell]; rfl
  have c8 : w.cell? ⟨bM, 8, none⟩ = some (.slice (some ⟨gs, 0, none⟩) n cap) := by rw [h1.cell]; rfl
  have c10 : w.cell? ⟨bM, 10, none⟩ = some (.slice (some ⟨gc, 0, none⟩) nc capc) := by rw [h1.cell]; rfl
  have f1 := h1.free 1
  have f2 := h1.free 2
  have f3 := h1.free 3
  have f4 := h1.free 4
  have f5 := h1.free 5
  have e2 : w.cell? ⟨gs, t * 5 + 2, none⟩ = some (.int .i64 last) := by rw [h2.cell]; exact s2
  go_enter Try.func55, Try.ntmps55
  go_upto_region 3 with fail
  go_cut [] (fun wx => Holds W wx (pt bM (machO bm t now (.pointer (some ⟨gc, last * 9, none⟩)) (.pointer (some ⟨gs, t * 5 + 3, none⟩)) false sh kit (.slice (some ⟨gs, 0, none⟩) n cap) moves (.slice (some ⟨gc, 0, none⟩) nc capc)) + (pt gs (.cells ss 137 (0, 0)) + (Sm + (pt gc (.cells cs 66 (0, 0)) + (G0 + F))))))
  case first =>
    go_region
    go_wp2_with fail
    go_meet
    exact (((((h1.set 1 _).set 2 _).set 5 _).set 3 _).set 4 _).drew
  case rest =>
    clear h1 h2 c0 c1 c2 c3 c4 c5 c8 c10 f1 f2 f3 f4 f5 e2
    have k1 := hcut
    unfold machO at k1
    have c0 : wc.cell? ⟨bM, 0, none⟩ = some (.pointer (some ⟨bm, 0, none⟩)) := by rw [k1.cell]; rfl
    clear k1
    go_wp2_with fail
    refine (now_at W wc bm words log mv now Sm (pt bM (machO bm t now (.pointer (some ⟨gc, last * 9, none⟩)) (.pointer (some ⟨gs, t * 5 + 3, none⟩)) false sh kit (.slice (some ⟨gs, 0, none⟩) n cap) moves (.slice (some ⟨gc, 0, none⟩) nc capc)) + (pt gs (.cells ss 137 (0, 0)) + (pt gc (.cells cs 66 (0, 0)) + (G0 + F)))) hm (hcut.of_eq (by ac_rfl))).mono ?_
    rintro e w2 ⟨rfl, Sn, hn2, h2⟩
    clear hcut c0
    have k2 := h2.of_eq (show _ = pt gs (.cells ss 137 (0, 0)) + (Sn + (pt bM (machO bm t now (.pointer (some ⟨gc, last * 9, none⟩)) (.pointer (some ⟨gs, t * 5 + 3, none⟩)) false sh kit (.slice (some ⟨gs, 0, none⟩) n cap) moves (.slice (some ⟨gc, 0, none⟩) nc capc)) + (pt gc (.cells cs 66 (0, 0)) + (G0 + F)))) from by ac_rfl)
    have s1' : w2.cell? ⟨gs, t * 5 + 1, none⟩ = some (.bool true) := by rw [k2.cell]; exact s1
    have s0' : w2.cell? ⟨gs, t * 5, none⟩ = some (.iface T (.pointer (some ⟨bt, 0, none⟩))) := by rw [k2.cell]; exact s0
    have fz := k2.free (t * 5 + 1)
    have hlt := k2.lt
    have hlt2 : bM < w2.heap.size := (k2.of_eq (show _ = pt bM (machO bm t now (.pointer (some ⟨gc, last * 9, none⟩)) (.pointer (some ⟨gs, t * 5 + 3, none⟩)) false sh kit (.slice (some ⟨gs, 0, none⟩) n cap) moves (.slice (some ⟨gc, 0, none⟩) nc capc)) + (Sn + (pt gs (.cells ss 137 (0, 0)) + (pt gc (.cells cs 66 (0, 0)) + (G0 + F)))) from by ac_rfl)).lt
    obtain ⟨fR, fS, m1, m2, m3, m4, q1, q2⟩ := hT.fns
    have Q2 := Lib.hid (fun w S F cs ss => q2 { k := { bd := w2.heap.size, bM := bM, bm := bm, th := t, nw := now, cv := .pointer (some ⟨gc, last * 9, none⟩), tv := .pointer (some ⟨gs, t * 5 + 3, none⟩), sh := sh, kit := kit, seats := .slice (some ⟨gs, 0, none⟩) n cap, moves := moves, calls := .slice (some ⟨gc, 0, none⟩) nc capc }, bt := bt, bh := 0, gc := gc, oc := last * 9, gs := gs, os := t * 5 + 3 } w S F cs ss rfl rfl)
    have hk := hT.kept rfl
    subst hk
    have k3 := k2.new w2.heap.size (by simp) (.cells #[.pointer (some ⟨bM, 0, none⟩)] 173 (0, 0))
    have hss' : t * 5 + 4 < ss.size := hss
    clear q1 q2 hT h2
    go_wp2_with fail
    refine (Q2.out _ (pt w2.heap.size (.cells #[.pointer (some ⟨bM, 0, none⟩)] 173 (0, 0)) + (pt bM (machO bm t now (.pointer (some ⟨gc, last * 9, none⟩)) (.pointer (some ⟨gs, t * 5 + 3, none⟩)) false sh kit (.slice (some ⟨gs, 0, none⟩) n cap) moves (.slice (some ⟨gc, 0, none⟩) nc capc)) + Sn) + (G1 + (pt gc (.cells cs 66 (0, 0)) + pt gs (.cells ss 137 (0, 0))))) F cs ss ⟨rfl, rfl, hcs, (by simp at hss' ⊢; omega), _, ⟨Sn, hn2, rfl⟩, rfl⟩ (k3.of_eq (by ac_rfl))).mono ?_
    rintro e w4 ⟨rfl, S4, ⟨_, _, _, _, Sd4, hd4, rfl⟩, h4⟩
    obtain ⟨Sm4, hm4, rfl⟩ := hd4
    have k6 : Holds W w4 (pt w2.heap.size (deskO bM) + (pt bM (machO bm t now (.pointer (some ⟨gc, last * 9, none⟩)) (.pointer (some ⟨gs, t * 5 + 3, none⟩)) true sh kit (.slice (some ⟨gs, 0, none⟩) n cap) moves (.slice (some ⟨gc, 0, none⟩) nc capc)) + Sm4) + (G2 + (pt gc (.cells (setPt cs (last * 9) p) 66 (0, 0)) + pt gs (.cells (setAn ss (t * 5 + 3) a) 137 (0, 0)))) + F) := h4
    have k7 := k6.of_eq (show _ = pt bM (machO bm t now (.pointer (some ⟨gc, last * 9, none⟩)) (.pointer (some ⟨gs, t * 5 + 3, none⟩)) true sh kit (.slice (some ⟨gs, 0, none⟩) n cap) moves (.slice (some ⟨gc, 0, none⟩) nc capc)) + (pt w2.heap.size (deskO bM) + Sm4 + (G2 + (pt gc (.cells (setPt cs (last * 9) p) 66 (0, 0)) + pt gs (.cells (setAn ss (t * 5 + 3) a) 137 (0, 0)))) + F) from by ac_rfl)
    have k8 := k7
    unfold machO at k8
    have d3 : w4.cell? ⟨bM, 3, none⟩ = some (.pointer (some ⟨gc, last * 9, none⟩)) := by rw [k8.cell]; rfl
    have d4 : w4.cell? ⟨bM, 4, none⟩ = some (.pointer (some ⟨gs, t * 5 + 3, none⟩)) := by rw [k8.cell]; rfl
    have f3 := k8.free 3
    have f4 := k8.free 4
    have k9 := k6.of_eq (show _ = pt gs (.cells (setAn ss (t * 5 + 3) a) 137 (0, 0)) + (pt bM (machO bm t now (.pointer (some ⟨gc, last * 9, none⟩)) (.pointer (some ⟨gs, t * 5 + 3, none⟩)) true sh kit (.slice (some ⟨gs, 0, none⟩) n cap) moves (.slice (some ⟨gc, 0, none⟩) nc capc)) + (pt w2.heap.size (deskO bM) + Sm4 + (G2 + pt gc (.cells (setPt cs (last * 9) p) 66 (0, 0))) + F)) from by ac_rfl)
    have k10 := k6.of_eq (show _ = pt gc (.cells (setPt cs (last * 9) p) 66 (0, 0)) + (pt gs (.cells (setAn ss (t * 5 + 3) a) 137 (0, 0)) + (pt bM (machO bm t now (.pointer (some ⟨gc, last * 9, none⟩)) (.pointer (some ⟨gs, t * 5 + 3, none⟩)) true sh kit (.slice (some ⟨gs, 0, none⟩) n cap) moves (.slice (some ⟨gc, 0, none⟩) nc capc)) + (pt w2.heap.size (deskO bM) + Sm4 + G2 + F))) from by ac_rfl)
    have hz : last * 9 + 8 < (setPt cs (last * 9) p).size := by cases p <;> simpa [setPt] using hcs
    have hz2 : t * 5 + 4 < (setAn ss (t * 5 + 3) a).size := by cases a <;> simpa [setAn] using hss'
    have hs2 : (setAn ss (t * 5 + 3) a)[t * 5 + 2]? = some (.int .i64 last) := by
      have e0 : ss[t * 5 + 2]? = some (.int .i64 last) := by first | exact s2 | (rw [Array.getElem?_setIfInBounds_ne (by omega)]; exact s2)
      cases a with
      | none => exact e0
      | some a => simp only [setAn]; rw [Array.getElem?_setIfInBounds_ne (by omega), Array.getElem?_setIfInBounds_ne (by omega)]; exact e0
    have d10 : w4.cell? ⟨bM, 10, none⟩ = some (.slice (some ⟨gc, 0, none⟩) nc capc) := by rw [k8.cell]; rfl
    have b2 : w4.cell? ⟨gs, t * 5 + 2, none⟩ = some (.int .i64 last) := by rw [k9.cell]; exact hs2
    have b3 : w4.cell? ⟨gs, t * 5 + 3, none⟩ = some (.int .i64 x) := by rw [k9.cell]; exact an1
    have b4 : w4.cell? ⟨gs, t * 5 + 4, none⟩ = some (.int .i64 y) := by rw [k9.cell]; exact an2
    have b0 : w4.cell? ⟨gs, t * 5, none⟩ = some ((setAn ss (t * 5 + 3) a)[t * 5]) := by rw [k9.cell]; simp [show t * 5 < (setAn ss (t * 5 + 3) a).size by omega]
    have fs0 := k9.free (t * 5)
    have a5 : w4.cell? ⟨gc, last * 9 + 5, none⟩ = some ((setPt cs (last * 9) p)[last * 9 + 5]) := by rw [k10.cell]; simp [show last * 9 + 5 < (setPt cs (last * 9) p).size by omega]
    have a7 : w4.cell? ⟨gc, last * 9 + 7, none⟩ = some ((setPt cs (last * 9) p)[last * 9 + 7]) := by rw [k10.cell]; simp [show last * 9 + 7 < (setPt cs (last * 9) p).size by omega]
    have a8 : w4.cell? ⟨gc, last * 9 + 8, none⟩ = some ((setPt cs (last * 9) p)[last * 9 + 8]) := by rw [k10.cell]; simp [hz]
    have g5 := k10.free (last * 9 + 5)
    have g7 := k10.free (last * 9 + 7)
    have g8 := k10.free (last * 9 + 8)
    generalize (setPt cs (last * 9) p)[last * 9 + 5] = v5 at a5
    generalize (setPt cs (last * 9) p)[last * 9 + 7] = v7 at a7
    generalize (setPt cs (last * 9) p)[last * 9 + 8] = v8 at a8
    generalize (setAn ss (t * 5 + 3) a)[t * 5] = v0 at b0
    have K := Lib.hid k10
    clear h4 k6 k7 k8 k9 k10 hz hz2 hs2 an1 an2 s0' s1' fz hlt hlt2 m1 m3 Q2 m2 m4 k2 k3 s0 s1 s2 hss' hss hcs
    go_upto_region 13 with fail
    go_region
    go_upto_region 14 with fail
    go_region
    go_wp2_with fail
    go_end0
    have K1 := ((K.out.set (last * 9 + 5) (.int .i64 now)).set (last * 9 + 7) (.int .i64 x)).set (last * 9 + 8) (.int .i64 y)
    have K2 := (K1.of_eq (show _ = pt gs (.cells (setAn ss (t * 5 + 3) a) 137 (0, 0)) + (pt bM (machO bm t now (.pointer (some ⟨gc, last * 9, none⟩)) (.pointer (some ⟨gs, t * 5 + 3, none⟩)) true sh kit (.slice (some ⟨gs, 0, none⟩) n cap) moves (.slice (some ⟨gc, 0, none⟩) nc capc)) + (pt w2.heap.size (deskO bM) + Sm4 + (G2 + pt gc (.cells ((((setPt cs (last * 9) p).setIfInBounds (last * 9 + 5) (.int .i64 now)).setIfInBounds (last * 9 + 7) (.int .i64 x)).setIfInBounds (last * 9 + 8) (.int .i64 y)) 66 (0, 0))) + F)) from by ac_rfl)).set (t * 5) .nilIface
    have K3 := K2.of_eq (show _ = pt bM (machO bm t now (.pointer (some ⟨gc, last * 9, none⟩)) (.pointer (some ⟨gs, t * 5 + 3, none⟩)) true sh kit (.slice (some ⟨gs, 0, none⟩) n cap) moves (.slice (some ⟨gc, 0, none⟩) nc capc)) + (pt w2.heap.size (deskO bM) + Sm4 + (G2 + (pt gc (.cells ((((setPt cs (last * 9) p).setIfInBounds (last * 9 + 5) (.int .i64 now)).setIfInBounds (last * 9 + 7) (.int .i64 x)).setIfInBounds (last * 9 + 8) (.int .i64 y)) 66 (0, 0)) + pt gs (.cells ((setAn ss (t * 5 + 3) a).setIfInBounds (t * 5) .nilIface) 137 (0, 0)))) + F) from by ac_rfl)
    unfold machO at K3
    have K4 := ((K3.set 3 nilp).set 4 nilp).drew.drew
    exact ⟨rfl, Sm4, hm4, (K4.of_eq (show _ = (pt bM (machO bm t now nilp nilp true sh kit (.slice (some ⟨gs, 0, none⟩) n cap) moves (.slice (some ⟨gc, 0, none⟩) nc capc)) + (Sm4 + (pt gc (.cells ((((setPt cs (last * 9) p).setIfInBounds (last * 9 + 5) (.int .i64 now)).setIfInBounds (last * 9 + 7) (.int .i64 x)).setIfInBounds (last * 9 + 8) (.int .i64 y)) 66 (0, 0)) + (pt gs (.cells ((setAn ss (t * 5 + 3) a).setIfInBounds (t * 5) .nilIface) 137 (0, 0)) + (G2 + F))))) + pt w2.heap.size (deskO bM) from by unfold machO; simp only [List.setIfInBounds_toArray]; ac_rfl)).left⟩

end Go.Proofs.Ythifeaigdobonaa
