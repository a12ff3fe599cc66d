/- The deque's OpSteal: its accesses, one by one. -/
import Derived.Test.YthifeaigdobonaaDqr
import Derived.Laws.EntriesVeiled
import Derived.Deep.DeepCutAuto
namespace Go.Proofs.Ythifeaigdobonaa
open Go.RowKit

section
variable (W w : World) (q : EK) (ws : List Int) (log : List Acc) (room top rank at_ : Int) (last : Bool) (cs ss : Array Value) (S F : Hp) (nx : Value) (b t v : Int)

set_option maxHeartbeats 1000000 in
theorem steal_ready 
    (hS : Env q false ws log (tkO 123 q.bh nx b t v []) (hubO room top last rank at_) cs ss S) (h : Holds W w (S + F)) :
    Calls Try.prog 174 #[.pointer (some ⟨q.bt, 0, none⟩), .pointer (some ⟨q.k.bd, 0, none⟩)] w
      (EPost W q false ws log (tkO 123 q.bh (.func (.func 175) #[.pointer (some ⟨q.bt, 0, none⟩)] #[]) b t v []) (hubO room top last rank at_) cs ss F (.bool false)) := by
  obtain ⟨tc, tf, _⟩ := hS.tcell h
  have c1 : w.cell? ⟨q.bt, 1, none⟩ = some (nx) := by rw [tc]; rfl
  have f1 := tf 1
  clear tc tf
  go_enter Try.func174, Try.ntmps174
  go_wp2_with fail
  go_ret
  obtain ⟨S1, h1, h2⟩ := hS.tset h 1 (.func (.func 175) #[.pointer (some ⟨q.bt, 0, none⟩)] #[])
  exact ⟨rfl, S1, h1, h2⟩

set_option maxHeartbeats 1000000 in
theorem steal_begin (h2 : 2 ≤ ws.length) (hv : I64 (wd ws 0)) (hb : log.length < 1048576)
    (hS : Env q false ws log (tkO 123 q.bh nx b t v []) (hubO room top last rank at_) cs ss S) (h : Holds W w (S + F)) :
    Calls Try.prog 175 #[.pointer (some ⟨q.bt, 0, none⟩), .pointer (some ⟨q.k.bd, 0, none⟩)] w
      (EPost W q true ws (log ++ [⟨q.k.nw, q.k.th, 1, 0, 0, 0, un (wd ws 0)⟩]) (tkO 123 q.bh (.func (.func 176) #[.pointer (some ⟨q.bt, 0, none⟩)] #[]) b (wd ws 0) v []) (hubO room top last rank at_) cs ss F (.bool false)) := by
  go_enter Try.func175, Try.ntmps175
  go_wp2_with fail
  refine (e_load W w q ws log _ _ cs ss S F 0 (by decide) (by omega) hb hS h).mono ?_
  rintro e w1 ⟨rfl, S1, hS1, h1⟩
  rw [show (0 : Int).toNat = 0 from rfl] at *
  clear hS h
  go_wp2_with fail
  refine (value_at _ hv _).mono ?_
  rintro e w' ⟨rfl, rfl⟩
  obtain ⟨tc, tf, _⟩ := hS1.tcell h1
  have c1 : w1.cell? ⟨q.bt, 1, none⟩ = some (nx) := by rw [tc]; rfl
  have c3 : w1.cell? ⟨q.bt, 3, none⟩ = some (.int .i64 t) := by rw [tc]; rfl
  have f1 := tf 1
  have f3 := tf 3
  clear tc tf
  go_wp2_with fail
  go_ret
  obtain ⟨S2, hS2, h2⟩ := hS1.tset h1 3 (.int .i64 (wd ws 0))
  obtain ⟨S3, hS3, h3⟩ := hS2.tset h2 1 (.func (.func 176) #[.pointer (some ⟨q.bt, 0, none⟩)] #[])
  exact ⟨rfl, S3, hS3, h3⟩

set_option maxHeartbeats 1000000 in
theorem steal_none (h2 : 2 ≤ ws.length) (hv : I64 (wd ws 1)) (hb : log.length < 1048576) (hlt : wd ws 1 ≤ t)
    (hS : Env q false ws log (tkO 123 q.bh nx b t v []) (hubO room top last rank at_) cs ss S) (h : Holds W w (S + F)) :
    Calls Try.prog 176 #[.pointer (some ⟨q.bt, 0, none⟩), .pointer (some ⟨q.k.bd, 0, none⟩)] w
      (EPost W q true ws (log ++ [⟨q.k.nw, q.k.th, 1, 1, 0, 0, un (wd ws 1)⟩]) (tkO 123 q.bh nx b t v []) (hubO room top last rank at_) (cs.setIfInBounds (q.oc + 6) (.int .i64 q.k.nw)) ((ss.setIfInBounds q.os (.int .i64 3)).setIfInBounds (q.os + 1) (.int .i64 0)) F (.bool true)) := by
  obtain ⟨tc, tf, _⟩ := hS.tcell h
  have c3 : w.cell? ⟨q.bt, 3, none⟩ = some (.int .i64 t) := by rw [tc]; rfl
  clear tc tf
  have hd := h.drew
  go_enter Try.func176, Try.ntmps176
  go_wp2_with fail
  go_region_held3 (fun w' => w'.cell? ⟨q.bt, 3, none⟩ = some (.int .i64 t)) (go_keep)
    (first
      | (go_at_call 61; refine (value_at _ hv _).mono ?_; rintro e w' ⟨rfl, rfl⟩)
      | (go_at_call 147; refine (e_load W _ q ws log _ _ cs ss S F 1 (by decide) (by omega) hb hS hd).mono ?_; rintro e w1 ⟨rfl, S1, hS1, h1⟩; obtain ⟨tc, _, _⟩ := hS1.tcell h1; have k3 : w1.cell? ⟨q.bt, 3, none⟩ = some (.int .i64 t) := by {rw [tc]; rfl}; clear tc))
  rw [show (1 : Int).toNat = 1 from rfl] at *
  clear hS h hd c3 k3
  go_wp2_with fail
  refine (e_now W w1 q _ _ _ _ _ _ S1 F true hS1 h1).mono ?_
  rintro e w' ⟨rfl, rfl⟩
  go_wp2_with fail
  refine (e_point W w1 q _ _ _ _ _ _ S1 F true q.k.nw hS1 h1).mono ?_
  rintro e w2 ⟨rfl, S2, hS2, h2⟩
  go_wp2_with fail
  refine (e_answer W w2 q _ _ _ _ _ _ S2 F true 3 0 hS2 h2).mono ?_
  rintro e w3 ⟨rfl, S3, hS3, h3⟩
  go_wp2_with fail
  go_ret
  exact ⟨rfl, S3, hS3, h3⟩

set_option maxHeartbeats 1000000 in
theorem steal_look (h2 : 2 ≤ ws.length) (hv : I64 (wd ws 1)) (hb : log.length < 1048576) (hlt : ¬ wd ws 1 ≤ t)
    (hS : Env q false ws log (tkO 123 q.bh nx b t v []) (hubO room top last rank at_) cs ss S) (h : Holds W w (S + F)) :
    Calls Try.prog 176 #[.pointer (some ⟨q.bt, 0, none⟩), .pointer (some ⟨q.k.bd, 0, none⟩)] w
      (EPost W q true ws (log ++ [⟨q.k.nw, q.k.th, 1, 1, 0, 0, un (wd ws 1)⟩]) (tkO 123 q.bh (.func (.func 177) #[.pointer (some ⟨q.bt, 0, none⟩)] #[]) b t v []) (hubO room top last rank at_) cs ss F (.bool false)) := by
  obtain ⟨tc, tf, _⟩ := hS.tcell h
  have c3 : w.cell? ⟨q.bt, 3, none⟩ = some (.int .i64 t) := by rw [tc]; rfl
  clear tc tf
  have hd := h.drew
  go_enter Try.func176, Try.ntmps176
  go_wp2_with fail
  go_region_held3 (fun w' => w'.cell? ⟨q.bt, 3, none⟩ = some (.int .i64 t)) (go_keep)
    (first
      | (go_at_call 61; refine (value_at _ hv _).mono ?_; rintro e w' ⟨rfl, rfl⟩)
      | (go_at_call 147; refine (e_load W _ q ws log _ _ cs ss S F 1 (by decide) (by omega) hb hS hd).mono ?_; rintro e w1 ⟨rfl, S1, hS1, h1⟩; obtain ⟨tc, _, _⟩ := hS1.tcell h1; have k3 : w1.cell? ⟨q.bt, 3, none⟩ = some (.int .i64 t) := by {rw [tc]; rfl}; clear tc))
  rw [show (1 : Int).toNat = 1 from rfl] at *
  clear hS h hd c3 k3
  obtain ⟨tc, tf, _⟩ := hS1.tcell h1
  have c1 : w1.cell? ⟨q.bt, 1, none⟩ = some (nx) := by rw [tc]; rfl
  have f1 := tf 1
  clear tc tf
  go_wp2_with fail
  go_ret
  obtain ⟨S7, hS7, h7⟩ := hS1.tset h1 1 (.func (.func 177) #[.pointer (some ⟨q.bt, 0, none⟩)] #[])
  exact ⟨rfl, S7, hS7, h7⟩

set_option maxHeartbeats 1000000 in
theorem steal_read (g0 : 0 ≤ t) (g1 : t ≤ 1000000000) (r1 : 1 ≤ room) (r2 : room ≤ 256) (hlen : (ws.length : Int) = 2 + room) (hb : log.length < 1048576) (hv : I64 (wd ws (2 + t % room).toNat))
    (hS : Env q false ws log (tkO 123 q.bh nx b t v []) (hubO room top last rank at_) cs ss S) (h : Holds W w (S + F)) :
    Calls Try.prog 177 #[.pointer (some ⟨q.bt, 0, none⟩), .pointer (some ⟨q.k.bd, 0, none⟩)] w
      (EPost W q true ws (log ++ [⟨q.k.nw, q.k.th, 1, 2 + t % room, 0, 0, un (wd ws (2 + t % room).toNat)⟩]) (tkO 123 q.bh (.func (.func 178) #[.pointer (some ⟨q.bt, 0, none⟩)] #[]) b t (wd ws (2 + t % room).toNat) []) (hubO room top last rank at_) cs ss F (.bool false)) := by
  obtain ⟨tc, tf, _⟩ := hS.tcell h
  have c0 : w.cell? ⟨q.bt, 0, none⟩ = some (.pointer (some ⟨q.bh, 0, none⟩)) := by rw [tc]; rfl
  have c3 : w.cell? ⟨q.bt, 3, none⟩ = some (.int .i64 t) := by rw [tc]; rfl
  have c4 : w.cell? ⟨q.bt, 4, none⟩ = some (.int .i64 v) := by rw [tc]; rfl
  have f4 := tf 4
  clear tc tf
  obtain ⟨d0, _, _, _, _⟩ := hS.hcell h
  have hd := h.drew
  have m0 : 0 ≤ 2 + t % room := by have := Int.emod_nonneg t (show room ≠ 0 by omega); omega
  have m1 : 2 + t % room < (ws.length : Int) := by have := Int.emod_lt_of_pos t (show 0 < room by omega); omega
  have HL := Lib.hid hlen
  clear hlen
  go_enter Try.func177, Try.ntmps177
  go_wp2_with fail
  go_region_held3 (fun w' => w'.cell? ⟨q.bt, 0, none⟩ = some (.pointer (some ⟨q.bh, 0, none⟩)) ∧ w'.cell? ⟨q.bt, 3, none⟩ = some (.int .i64 t) ∧ w'.cell? ⟨q.bh, 0, none⟩ = some (.int .i64 room)) (simp [*, World.cell?_setCell_other])
    (first
      | (go_at_call 145; refine (cell_at _ q.bt q.bh t room g0 g1 r1 r2 (by assumption) (by assumption)).mono ?_; rintro e w' ⟨rfl, rfl⟩)
      | (go_at_call 61; refine (value_at _ hv _).mono ?_; rintro e w' ⟨rfl, rfl⟩)
      | (go_at_call 147; refine (e_load W _ q ws log _ _ cs ss S F _ m0 m1 hb hS hd).mono ?_; rintro e w1 ⟨rfl, S1, hS1, h1⟩; obtain ⟨tc, tf, _⟩ := hS1.tcell h1; have k0 : w1.cell? ⟨q.bt, 0, none⟩ = some (.pointer (some ⟨q.bh, 0, none⟩)) := by {rw [tc]; rfl}; have k2 : w1.cell? ⟨q.bt, 3, none⟩ = some (.int .i64 t) := by {rw [tc]; rfl}; have k4 : w1.cell? ⟨q.bt, 4, none⟩ = some (.int .i64 v) := by {rw [tc]; rfl}; have k5 := tf 4; obtain ⟨k3, _, _, _, _⟩ := hS1.hcell h1; clear tc tf))
  obtain ⟨S2, hS2, h2⟩ := hS1.tset h1 4 (.int .i64 (wd ws (2 + t % room).toNat))
  clear hS h hd c0 c3 c4 d0 k0 k2 k3 k4 k5 hS1 h1 f4
  generalize w1.setCell ⟨q.bt, 4, none⟩ (.int .i64 (wd ws (2 + t % room).toNat)) = w2 at h2 ⊢
  obtain ⟨tc, tf, _⟩ := hS2.tcell h2
  have c1 : w2.cell? ⟨q.bt, 1, none⟩ = some (nx) := by rw [tc]; rfl
  have f1 := tf 1
  clear tc tf
  go_wp2_with fail
  go_ret
  obtain ⟨S7, hS7, h7⟩ := hS2.tset h2 1 (.func (.func 178) #[.pointer (some ⟨q.bt, 0, none⟩)] #[])
  exact ⟨rfl, S7, hS7, h7⟩

set_option maxHeartbeats 1000000 in
theorem steal_lost (h2 : 2 ≤ ws.length) (hb : log.length < 1048576) (b1 : -1000000000 ≤ t ∧ t ≤ 1000000000) (b2 : -1000000000 ≤ wd ws 0 ∧ wd ws 0 ≤ 1000000000) (heq : wd ws 0 ≠ t)
    (hS : Env q false ws log (tkO 123 q.bh nx b t v []) (hubO room top last rank at_) cs ss S) (h : Holds W w (S + F)) :
    Calls Try.prog 178 #[.pointer (some ⟨q.bt, 0, none⟩), .pointer (some ⟨q.k.bd, 0, none⟩)] w
      (EPost W q true ws (log ++ [⟨q.k.nw, q.k.th, 3, 0, un t, un (t + 1), un (wd ws 0)⟩]) (tkO 123 q.bh (.func (.func 175) #[.pointer (some ⟨q.bt, 0, none⟩)] #[]) b t v []) (hubO room top last rank at_) cs ss F (.bool false)) := by
  go_enter Try.func178, Try.ntmps178
  go_wp2_with fail
  refine (raise_no W w q ws log room top rank at_ last cs ss S F nx b t v 123 [] h2 hb b1 b2 heq hS h).mono ?_
  rintro e w1 ⟨rfl, S1, hS1, h1⟩
  clear hS h heq
  obtain ⟨tc, tf, _⟩ := hS1.tcell h1
  have c1 : w1.cell? ⟨q.bt, 1, none⟩ = some (nx) := by rw [tc]; rfl
  have f1 := tf 1
  clear tc tf
  go_wp2_with fail
  go_ret
  obtain ⟨S7, hS7, h7⟩ := hS1.tset h1 1 (.func (.func 175) #[.pointer (some ⟨q.bt, 0, none⟩)] #[])
  exact ⟨rfl, S7, hS7, h7⟩

set_option maxHeartbeats 1000000 in
theorem steal_won_off (h2 : 2 ≤ ws.length) (hb : log.length < 1048576) (b1 : -1000000000 ≤ t ∧ t ≤ 1000000000) (b2 : -1000000000 ≤ wd ws 0 ∧ wd ws 0 ≤ 1000000000) (heq : wd ws 0 = t)
    (hS : Env q false ws log (tkO 123 q.bh nx b t v []) (hubO room top false rank at_) cs ss S) (h : Holds W w (S + F)) :
    Calls Try.prog 178 #[.pointer (some ⟨q.bt, 0, none⟩), .pointer (some ⟨q.k.bd, 0, none⟩)] w
      (EPost W q true (ws.set 0 (t + 1)) (log ++ [⟨q.k.nw, q.k.th, 3, 0, un t, un (t + 1), un (wd ws 0)⟩]) (tkO 123 q.bh nx b t v []) (hubO room (t + 1) false rank at_) (cs.setIfInBounds (q.oc + 6) (.int .i64 q.k.nw)) ((ss.setIfInBounds q.os (.int .i64 2)).setIfInBounds (q.os + 1) (.int .i64 v)) F (.bool true)) := by
  go_enter Try.func178, Try.ntmps178
  go_wp2_with fail
  refine (raise_yes W w q ws log room top rank at_ false cs ss S F nx b t v 123 [] h2 hb b1 b2 heq hS h).mono ?_
  rintro e w1 ⟨rfl, S1, hS1, h1⟩
  clear hS h heq
  go_wp2_with fail
  refine (e_now W w1 q _ _ _ _ _ _ S1 F true hS1 h1).mono ?_
  rintro e w' ⟨rfl, rfl⟩
  obtain ⟨tc, tf, _⟩ := hS1.tcell h1
  have c0 : w1.cell? ⟨q.bt, 0, none⟩ = some (.pointer (some ⟨q.bh, 0, none⟩)) := by rw [tc]; rfl
  have c3 : w1.cell? ⟨q.bt, 3, none⟩ = some (.int .i64 t) := by rw [tc]; rfl
  clear tc tf
  obtain ⟨_, _, d2, d3, d4⟩ := hS1.hcell h1
  have h2 := h1.drew
  go_upto_region 5 with fail
  go_region
  clear c0 c3 d2 d3 d4 h1
  generalize w1.drew = w2 at h2 ⊢
  go_wp2_with fail
  refine (e_point W w2 q _ _ _ _ _ _ S1 F true q.k.nw hS1 h2).mono ?_
  rintro e w3 ⟨rfl, S3, hS3, h3⟩
  obtain ⟨tc, tf, _⟩ := hS3.tcell h3
  have c4 : w3.cell? ⟨q.bt, 4, none⟩ = some (.int .i64 v) := by rw [tc]; rfl
  clear tc tf
  go_wp2_with fail
  refine (e_answer W w3 q _ _ _ _ _ _ S3 F true 2 v hS3 h3).mono ?_
  rintro e w4 ⟨rfl, S4, hS4, h4⟩
  go_wp2_with fail
  go_ret
  exact ⟨rfl, S4, hS4, h4⟩

set_option maxHeartbeats 1000000 in
theorem steal_won_far (h2 : 2 ≤ ws.length) (hb : log.length < 1048576) (b1 : -1000000000 ≤ t ∧ t ≤ 1000000000) (b2 : -1000000000 ≤ wd ws 0 ∧ wd ws 0 ≤ 1000000000) (heq : wd ws 0 = t) (hr : t ≠ rank)
    (hS : Env q false ws log (tkO 123 q.bh nx b t v []) (hubO room top true rank at_) cs ss S) (h : Holds W w (S + F)) :
    Calls Try.prog 178 #[.pointer (some ⟨q.bt, 0, none⟩), .pointer (some ⟨q.k.bd, 0, none⟩)] w
      (EPost W q true (ws.set 0 (t + 1)) (log ++ [⟨q.k.nw, q.k.th, 3, 0, un t, un (t + 1), un (wd ws 0)⟩]) (tkO 123 q.bh nx b t v []) (hubO room (t + 1) true rank at_) (cs.setIfInBounds (q.oc + 6) (.int .i64 q.k.nw)) ((ss.setIfInBounds q.os (.int .i64 2)).setIfInBounds (q.os + 1) (.int .i64 v)) F (.bool true)) := by
  go_enter Try.func178, Try.ntmps178
  go_wp2_with fail
  refine (raise_yes W w q ws log room top rank at_ true cs ss S F nx b t v 123 [] h2 hb b1 b2 heq hS h).mono ?_
  rintro e w1 ⟨rfl, S1, hS1, h1⟩
  clear hS h heq
  go_wp2_with fail
  refine (e_now W w1 q _ _ _ _ _ _ S1 F true hS1 h1).mono ?_
  rintro e w' ⟨rfl, rfl⟩
  obtain ⟨tc, tf, _⟩ := hS1.tcell h1
  have c0 : w1.cell? ⟨q.bt, 0, none⟩ = some (.pointer (some ⟨q.bh, 0, none⟩)) := by rw [tc]; rfl
  have c3 : w1.cell? ⟨q.bt, 3, none⟩ = some (.int .i64 t) := by rw [tc]; rfl
  clear tc tf
  obtain ⟨_, _, d2, d3, d4⟩ := hS1.hcell h1
  have h2 := h1.drew
  have hg : (t == rank) = false := by rw [beq_eq_false_iff_ne]; exact hr
  clear hr
  go_upto_region 5 with fail
  go_region
  clear c0 c3 d2 d3 d4 h1
  generalize w1.drew = w2 at h2 ⊢
  go_wp2_with fail
  refine (e_point W w2 q _ _ _ _ _ _ S1 F true q.k.nw hS1 h2).mono ?_
  rintro e w3 ⟨rfl, S3, hS3, h3⟩
  obtain ⟨tc, tf, _⟩ := hS3.tcell h3
  have c4 : w3.cell? ⟨q.bt, 4, none⟩ = some (.int .i64 v) := by rw [tc]; rfl
  clear tc tf
  go_wp2_with fail
  refine (e_answer W w3 q _ _ _ _ _ _ S3 F true 2 v hS3 h3).mono ?_
  rintro e w4 ⟨rfl, S4, hS4, h4⟩
  go_wp2_with fail
  go_ret
  exact ⟨rfl, S4, hS4, h4⟩

set_option maxHeartbeats 1000000 in
theorem steal_won_back (h2 : 2 ≤ ws.length) (hb : log.length < 1048576) (b1 : -1000000000 ≤ t ∧ t ≤ 1000000000) (b2 : -1000000000 ≤ wd ws 0 ∧ wd ws 0 ≤ 1000000000) (heq : wd ws 0 = t) (hr : t = rank)
    (hS : Env q false ws log (tkO 123 q.bh nx b t v []) (hubO room top true rank at_) cs ss S) (h : Holds W w (S + F)) :
    Calls Try.prog 178 #[.pointer (some ⟨q.bt, 0, none⟩), .pointer (some ⟨q.k.bd, 0, none⟩)] w
      (EPost W q true (ws.set 0 (t + 1)) (log ++ [⟨q.k.nw, q.k.th, 3, 0, un t, un (t + 1), un (wd ws 0)⟩]) (tkO 123 q.bh nx b t v []) (hubO room (t + 1) true rank at_) (cs.setIfInBounds (q.oc + 6) (.int .i64 at_)) ((ss.setIfInBounds q.os (.int .i64 2)).setIfInBounds (q.os + 1) (.int .i64 v)) F (.bool true)) := by
  go_enter Try.func178, Try.ntmps178
  go_wp2_with fail
  refine (raise_yes W w q ws log room top rank at_ true cs ss S F nx b t v 123 [] h2 hb b1 b2 heq hS h).mono ?_
  rintro e w1 ⟨rfl, S1, hS1, h1⟩
  clear hS h heq
  go_wp2_with fail
  refine (e_now W w1 q _ _ _ _ _ _ S1 F true hS1 h1).mono ?_
  rintro e w' ⟨rfl, rfl⟩
  obtain ⟨tc, tf, _⟩ := hS1.tcell h1
  have c0 : w1.cell? ⟨q.bt, 0, none⟩ = some (.pointer (some ⟨q.bh, 0, none⟩)) := by rw [tc]; rfl
  have c3 : w1.cell? ⟨q.bt, 3, none⟩ = some (.int .i64 t) := by rw [tc]; rfl
  clear tc tf
  obtain ⟨_, _, d2, d3, d4⟩ := hS1.hcell h1
  have h2 := h1.drew
  have hg : (t == rank) = true := by rw [beq_iff_eq]; exact hr
  clear hr
  go_upto_region 5 with fail
  go_region
  clear c0 c3 d2 d3 d4 h1
  generalize w1.drew = w2 at h2 ⊢
  obtain ⟨tc, tf, _⟩ := hS1.tcell h2
  have c0 : w2.cell? ⟨q.bt, 0, none⟩ = some (.pointer (some ⟨q.bh, 0, none⟩)) := by rw [tc]; rfl
  clear tc tf
  obtain ⟨_, _, _, _, d4⟩ := hS1.hcell h2
  go_wp2_with fail
  refine (e_point W w2 q _ _ _ _ _ _ S1 F true at_ hS1 h2).mono ?_
  rintro e w3 ⟨rfl, S3, hS3, h3⟩
  clear c0 d4
  obtain ⟨tc, tf, _⟩ := hS3.tcell h3
  have c4 : w3.cell? ⟨q.bt, 4, none⟩ = some (.int .i64 v) := by rw [tc]; rfl
  clear tc tf
  go_wp2_with fail
  refine (e_answer W w3 q _ _ _ _ _ _ S3 F true 2 v hS3 h3).mono ?_
  rintro e w4 ⟨rfl, S4, hS4, h4⟩
  go_wp2_with fail
  go_ret
  exact ⟨rfl, S4, hS4, h4⟩

end
end Go.Proofs.Ythifeaigdobonaa
