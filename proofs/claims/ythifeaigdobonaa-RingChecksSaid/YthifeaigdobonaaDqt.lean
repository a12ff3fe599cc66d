/- The deque's OpDequeTake: its accesses, one by one. -/
import Derived.Test.YthifeaigdobonaaDqa
import Derived.Laws.EntriesVeiled
import Derived.Deep.DeepCutAuto
namespace Go.Proofs.Ythifeaigdobonaa
open Go.RowKit

section
variable (W w : World) (q : EK) (ws : List Int) (log : List Acc) (room top rank at_ : Int) (last : Bool) (cs ss : Array Value) (S F : Hp) (nx : Value) (b t v : Int) (got : Bool)

set_option maxHeartbeats 1000000 in
theorem take_ready 
    (hS : Env q false ws log (tkO 121 q.bh nx b t v [.bool got]) (hubO room top last rank at_) cs ss S) (h : Holds W w (S + F)) :
    Calls Try.prog 163 #[.pointer (some ⟨q.bt, 0, none⟩), .pointer (some ⟨q.k.bd, 0, none⟩)] w
      (EPost W q false ws log (tkO 121 q.bh (.func (.func 164) #[.pointer (some ⟨q.bt, 0, none⟩)] #[]) b t v [.bool got]) (hubO room top last rank at_) cs ss F (.bool false)) := by
  obtain ⟨tc, tf, _⟩ := hS.tcell h
  have c1 : w.cell? ⟨q.bt, 1, none⟩ = some (nx) := by rw [tc]; rfl
  have f1 := tf 1
  clear tc tf
  go_enter Try.func163, Try.ntmps163
  go_wp2_with fail
  go_ret
  obtain ⟨S1, h1, h2⟩ := hS.tset h 1 (.func (.func 164) #[.pointer (some ⟨q.bt, 0, none⟩)] #[])
  exact ⟨rfl, S1, h1, h2⟩

set_option maxHeartbeats 1000000 in
theorem take_bottom (h2 : 2 ≤ ws.length) (hv : I64 (wd ws 1)) (hb : log.length < 1048576) (b2 : -1000000000 ≤ wd ws 1 ∧ wd ws 1 ≤ 1000000000)
    (hS : Env q false ws log (tkO 121 q.bh nx b t v [.bool got]) (hubO room top last rank at_) cs ss S) (h : Holds W w (S + F)) :
    Calls Try.prog 164 #[.pointer (some ⟨q.bt, 0, none⟩), .pointer (some ⟨q.k.bd, 0, none⟩)] w
      (EPost W q true ws (log ++ [⟨q.k.nw, q.k.th, 1, 1, 0, 0, un (wd ws 1)⟩]) (tkO 121 q.bh (.func (.func 165) #[.pointer (some ⟨q.bt, 0, none⟩)] #[]) (wd ws 1 - 1) t v [.bool got]) (hubO room top last rank at_) cs ss F (.bool false)) := by
  go_enter Try.func164, Try.ntmps164
  go_wp2_with fail
  refine (e_load W w q ws log _ _ cs ss S F 1 (by decide) (by omega) hb hS h).mono ?_
  rintro e w1 ⟨rfl, S1, hS1, h1⟩
  rw [show (1 : Int).toNat = 1 from rfl] at *
  clear hS h
  go_wp2_with fail
  refine (value_at _ hv _).mono ?_
  rintro e w' ⟨rfl, rfl⟩
  obtain ⟨tc, tf, _⟩ := hS1.tcell h1
  have c1 : w1.cell? ⟨q.bt, 1, none⟩ = some (nx) := by rw [tc]; rfl
  have c2 : w1.cell? ⟨q.bt, 2, none⟩ = some (.int .i64 b) := by rw [tc]; rfl
  have f1 := tf 1
  have f2 := tf 2
  clear tc tf
  go_wp2_with fail
  go_ret
  obtain ⟨S2, hS2, h2⟩ := hS1.tset h1 2 (.int .i64 (wd ws 1 - 1))
  obtain ⟨S3, hS3, h3⟩ := hS2.tset h2 1 (.func (.func 165) #[.pointer (some ⟨q.bt, 0, none⟩)] #[])
  exact ⟨rfl, S3, hS3, h3⟩

set_option maxHeartbeats 1000000 in
theorem take_lower (h2 : 2 ≤ ws.length) (hb : log.length < 1048576)
    (hS : Env q false ws log (tkO 121 q.bh nx b t v [.bool got]) (hubO room top last rank at_) cs ss S) (h : Holds W w (S + F)) :
    Calls Try.prog 165 #[.pointer (some ⟨q.bt, 0, none⟩), .pointer (some ⟨q.k.bd, 0, none⟩)] w
      (EPost W q true (ws.set 1 b) (log ++ [⟨q.k.nw, q.k.th, 2, 1, 0, un b, 0⟩]) (tkO 121 q.bh (.func (.func 166) #[.pointer (some ⟨q.bt, 0, none⟩)] #[]) b t v [.bool got]) (hubO room top (top == b) b q.k.nw) (cs.setIfInBounds (q.oc + 6) (.int .i64 q.k.nw)) ss F (.bool false)) := by
  obtain ⟨tc, tf, _⟩ := hS.tcell h
  have c0 : w.cell? ⟨q.bt, 0, none⟩ = some (.pointer (some ⟨q.bh, 0, none⟩)) := by rw [tc]; rfl
  have c2 : w.cell? ⟨q.bt, 2, none⟩ = some (.int .i64 b) := by rw [tc]; rfl
  clear tc tf
  have hd0 := hS.hcell h
  obtain ⟨_, d1, _, _, _⟩ := hd0
  go_enter Try.func165, Try.ntmps165
  go_wp2_with fail
  refine (number_at b _).mono ?_
  rintro e w' ⟨rfl, rfl⟩
  go_wp2_with fail
  refine (e_store W w q ws log _ _ cs ss S F 1 b (by decide) (by omega) hb hS h).mono ?_
  rintro e w1 ⟨rfl, S1, hS1, h1⟩
  rw [show (1 : Int).toNat = 1 from rfl] at *
  clear hS h c0 c2 d1
  go_wp2_with fail
  refine (e_now W w1 q _ _ _ _ _ _ S1 F true hS1 h1).mono ?_
  rintro e w' ⟨rfl, rfl⟩
  go_wp2_with fail
  refine (e_point W w1 q _ _ _ _ _ _ S1 F true q.k.nw hS1 h1).mono ?_
  rintro e w2 ⟨rfl, S2, hS2, h2⟩
  obtain ⟨tc, tf, _⟩ := hS2.tcell h2
  have c0 : w2.cell? ⟨q.bt, 0, none⟩ = some (.pointer (some ⟨q.bh, 0, none⟩)) := by rw [tc]; rfl
  have c2 : w2.cell? ⟨q.bt, 2, none⟩ = some (.int .i64 b) := by rw [tc]; rfl
  clear tc tf
  obtain ⟨_, d1, d2, d3, d4⟩ := hS2.hcell h2
  obtain ⟨hf, hne⟩ := hS2.hfree h2
  have f2 := hf 2
  have f3 := hf 3
  have f4 := hf 4
  clear hf
  have hd := h2.drew
  go_wp2_with fail
  go_region_held3 (fun w' => w'.cell? ⟨q.bt, 0, none⟩ = some (.pointer (some ⟨q.bh, 0, none⟩)) ∧ w'.cell? ⟨q.bt, 2, none⟩ = some (.int .i64 b) ∧ w'.cell? ⟨q.bh, 1, none⟩ = some (.int .i64 top)) (simp [*, World.cell?_setCell_far, World.cell?_setCell_other])
    (first | (go_at_call 152; refine (e_now W _ q _ _ _ _ _ _ S2 F true hS2 hd).mono ?_; rintro e w' ⟨rfl, rfl⟩))
  obtain ⟨S3, hS3, h3⟩ := hS2.hset h2 2 (.bool (top == b))
  obtain ⟨S4, hS4, h4⟩ := hS3.hset h3 3 (.int .i64 b)
  obtain ⟨S5, hS5, h5⟩ := hS4.hset h4 4 (.int .i64 q.k.nw)
  have h6 := h5.drew
  clear h5 h4 h3 hd f2 f3 f4 d1 d2 d3 d4 hne c0 c2 hS3 hS4
  generalize (((w2.setCell ⟨q.bh, 2, none⟩ (.bool (top == b))).setCell ⟨q.bh, 3, none⟩ (.int .i64 b)).setCell ⟨q.bh, 4, none⟩ (.int .i64 q.k.nw)).drew = w5 at h6 ⊢
  obtain ⟨tc, tf, _⟩ := hS5.tcell h6
  have c1 : w5.cell? ⟨q.bt, 1, none⟩ = some (nx) := by rw [tc]; rfl
  have f1 := tf 1
  clear tc tf
  go_wp2_with fail
  go_ret
  obtain ⟨S7, hS7, h7⟩ := hS5.tset h6 1 (.func (.func 166) #[.pointer (some ⟨q.bt, 0, none⟩)] #[])
  exact ⟨rfl, S7, hS7, h7⟩

set_option maxHeartbeats 1000000 in
theorem take_look (h2 : 2 ≤ ws.length) (hv : I64 (wd ws 0)) (hb : log.length < 1048576) (hlt : ¬ b < wd ws 0)
    (hS : Env q false ws log (tkO 121 q.bh nx b t v [.bool got]) (hubO room top last rank at_) cs ss S) (h : Holds W w (S + F)) :
    Calls Try.prog 166 #[.pointer (some ⟨q.bt, 0, none⟩), .pointer (some ⟨q.k.bd, 0, none⟩)] w
      (EPost W q true ws (log ++ [⟨q.k.nw, q.k.th, 1, 0, 0, 0, un (wd ws 0)⟩]) (tkO 121 q.bh (.func (.func 167) #[.pointer (some ⟨q.bt, 0, none⟩)] #[]) b (wd ws 0) v [.bool got]) (hubO room top last rank at_) cs ss F (.bool false)) := by
  go_enter Try.func166, Try.ntmps166
  go_wp2_with fail
  refine (e_load W w q ws log _ _ cs ss S F 0 (by decide) (by omega) hb hS h).mono ?_
  rintro e w1 ⟨rfl, S1, hS1, h1⟩
  rw [show (0 : Int).toNat = 0 from rfl] at *
  clear hS h
  go_wp2_with fail
  refine (value_at _ hv _).mono ?_
  rintro e w' ⟨rfl, rfl⟩
  obtain ⟨tc, tf, _⟩ := hS1.tcell h1
  have c1 : w1.cell? ⟨q.bt, 1, none⟩ = some (nx) := by rw [tc]; rfl
  have c2 : w1.cell? ⟨q.bt, 2, none⟩ = some (.int .i64 b) := by rw [tc]; rfl
  have c3 : w1.cell? ⟨q.bt, 3, none⟩ = some (.int .i64 t) := by rw [tc]; rfl
  have f1 := tf 1
  have f3 := tf 3
  clear tc tf
  obtain ⟨Sa, hSa, ha⟩ := hS1.tset h1 3 (.int .i64 (wd ws 0))
  obtain ⟨S2, hS2, hc⟩ := hSa.tset ha 1 (.func (.func 167) #[.pointer (some ⟨q.bt, 0, none⟩)] #[])
  go_wp2_with fail
  go_region
  have h2 := hc.drew
  clear hc hSa ha hS1 h1 c1 c2 c3 f1 f3
  generalize ((w1.setCell ⟨q.bt, 3, none⟩ (.int .i64 (wd ws 0))).setCell ⟨q.bt, 1, none⟩ (.func (.func 167) #[.pointer (some ⟨q.bt, 0, none⟩)] #[])).drew = w2 at h2 ⊢
  go_wp2_with fail
  go_ret
  exact ⟨rfl, S2, hS2, h2⟩

set_option maxHeartbeats 1000000 in
theorem take_none (h2 : 2 ≤ ws.length) (hv : I64 (wd ws 0)) (hb : log.length < 1048576) (hlt : b < wd ws 0)
    (hS : Env q false ws log (tkO 121 q.bh nx b t v [.bool got]) (hubO room top last rank at_) cs ss S) (h : Holds W w (S + F)) :
    Calls Try.prog 166 #[.pointer (some ⟨q.bt, 0, none⟩), .pointer (some ⟨q.k.bd, 0, none⟩)] w
      (EPost W q true ws (log ++ [⟨q.k.nw, q.k.th, 1, 0, 0, 0, un (wd ws 0)⟩]) (tkO 121 q.bh (.func (.func 168) #[.pointer (some ⟨q.bt, 0, none⟩)] #[]) b (wd ws 0) v [.bool got]) (hubO room top last rank at_) (cs.setIfInBounds (q.oc + 6) (.int .i64 q.k.nw)) ss F (.bool false)) := by
  go_enter Try.func166, Try.ntmps166
  go_wp2_with fail
  refine (e_load W w q ws log _ _ cs ss S F 0 (by decide) (by omega) hb hS h).mono ?_
  rintro e w1 ⟨rfl, S1, hS1, h1⟩
  rw [show (0 : Int).toNat = 0 from rfl] at *
  clear hS h
  go_wp2_with fail
  refine (value_at _ hv _).mono ?_
  rintro e w' ⟨rfl, rfl⟩
  obtain ⟨tc, tf, _⟩ := hS1.tcell h1
  have c1 : w1.cell? ⟨q.bt, 1, none⟩ = some (nx) := by rw [tc]; rfl
  have c2 : w1.cell? ⟨q.bt, 2, none⟩ = some (.int .i64 b) := by rw [tc]; rfl
  have c3 : w1.cell? ⟨q.bt, 3, none⟩ = some (.int .i64 t) := by rw [tc]; rfl
  have f1 := tf 1
  have f3 := tf 3
  clear tc tf
  obtain ⟨Sa, hSa, ha⟩ := hS1.tset h1 3 (.int .i64 (wd ws 0))
  obtain ⟨S2, hS2, hc⟩ := hSa.tset ha 1 (.func (.func 167) #[.pointer (some ⟨q.bt, 0, none⟩)] #[])
  go_wp2_with fail
  go_region
  have h2 := hc.drew
  clear hc hSa ha hS1 h1 c1 c2 c3 f1 f3
  generalize ((w1.setCell ⟨q.bt, 3, none⟩ (.int .i64 (wd ws 0))).setCell ⟨q.bt, 1, none⟩ (.func (.func 167) #[.pointer (some ⟨q.bt, 0, none⟩)] #[])).drew = w2 at h2 ⊢
  go_wp2_with fail
  refine (e_now W w2 q _ _ _ _ _ _ S2 F true hS2 h2).mono ?_
  rintro e w' ⟨rfl, rfl⟩
  go_wp2_with fail
  refine (e_point W w2 q _ _ _ _ _ _ S2 F true q.k.nw hS2 h2).mono ?_
  rintro e w3 ⟨rfl, S3, hS3, h3⟩
  obtain ⟨tc, tf, _⟩ := hS3.tcell h3
  have c1 : w3.cell? ⟨q.bt, 1, none⟩ = some (.func (.func 167) #[.pointer (some ⟨q.bt, 0, none⟩)] #[]) := by rw [tc]; rfl
  have f1 := tf 1
  clear tc tf
  go_wp2_with fail
  go_ret
  obtain ⟨S7, hS7, h7⟩ := hS3.tset h3 1 (.func (.func 168) #[.pointer (some ⟨q.bt, 0, none⟩)] #[])
  exact ⟨rfl, S7, hS7, h7⟩

set_option maxHeartbeats 1000000 in
theorem take_reset (h2 : 2 ≤ ws.length) (hb : log.length < 1048576)
    (hS : Env q false ws log (tkO 121 q.bh nx b t v [.bool got]) (hubO room top last rank at_) cs ss S) (h : Holds W w (S + F)) :
    Calls Try.prog 168 #[.pointer (some ⟨q.bt, 0, none⟩), .pointer (some ⟨q.k.bd, 0, none⟩)] w
      (EPost W q true (ws.set 1 t) (log ++ [⟨q.k.nw, q.k.th, 2, 1, 0, un t, 0⟩]) (tkO 121 q.bh nx b t v [.bool got]) (hubO room top false rank at_) cs ((ss.setIfInBounds q.os (.int .i64 3)).setIfInBounds (q.os + 1) (.int .i64 0)) F (.bool true)) := by
  obtain ⟨tc, tf, _⟩ := hS.tcell h
  have c3 : w.cell? ⟨q.bt, 3, none⟩ = some (.int .i64 t) := by rw [tc]; rfl
  clear tc tf
  go_enter Try.func168, Try.ntmps168
  go_wp2_with fail
  refine (number_at t _).mono ?_
  rintro e w' ⟨rfl, rfl⟩
  go_wp2_with fail
  refine (e_store W w q ws log _ _ cs ss S F 1 t (by decide) (by omega) hb hS h).mono ?_
  rintro e w1 ⟨rfl, S1, hS1, h1⟩
  rw [show (1 : Int).toNat = 1 from rfl] at *
  clear hS h c3
  obtain ⟨tc, tf, _⟩ := hS1.tcell h1
  have c0 : w1.cell? ⟨q.bt, 0, none⟩ = some (.pointer (some ⟨q.bh, 0, none⟩)) := by rw [tc]; rfl
  clear tc tf
  obtain ⟨_, d1, d2, d3, d4⟩ := hS1.hcell h1
  obtain ⟨hf, _⟩ := hS1.hfree h1
  have f2 := hf 2
  clear hf
  obtain ⟨S2, hS2, h2⟩ := hS1.hset h1 2 (.bool false)
  go_wp2_with fail
  clear h1 hS1 c0 d1 d2 d3 d4 f2
  generalize w1.setCell ⟨q.bh, 2, none⟩ (.bool false) = w2 at h2 ⊢
  go_wp2_with fail
  refine (e_answer W w2 q _ _ _ _ _ _ S2 F true 3 0 hS2 h2).mono ?_
  rintro e w3 ⟨rfl, S3, hS3, h3⟩
  go_wp2_with fail
  go_ret
  exact ⟨rfl, S3, hS3, h3⟩

set_option maxHeartbeats 1000000 in
theorem take_more (g0 : 0 ≤ b) (g1 : b ≤ 1000000000) (r1 : 1 ≤ room) (r2 : room ≤ 256) (hlen : (ws.length : Int) = 2 + room) (hb : log.length < 1048576) (hv : I64 (wd ws (2 + b % room).toNat)) (hlt : t < b)
    (hS : Env q false ws log (tkO 121 q.bh nx b t v [.bool got]) (hubO room top last rank at_) cs ss S) (h : Holds W w (S + F)) :
    Calls Try.prog 167 #[.pointer (some ⟨q.bt, 0, none⟩), .pointer (some ⟨q.k.bd, 0, none⟩)] w
      (EPost W q true ws (log ++ [⟨q.k.nw, q.k.th, 1, 2 + b % room, 0, 0, un (wd ws (2 + b % room).toNat)⟩]) (tkO 121 q.bh nx b t (wd ws (2 + b % room).toNat) [.bool got]) (hubO room top false rank at_) cs ((ss.setIfInBounds q.os (.int .i64 2)).setIfInBounds (q.os + 1) (.int .i64 (wd ws (2 + b % room).toNat))) F (.bool true)) := by
  obtain ⟨tc, tf, _⟩ := hS.tcell h
  have c0 : w.cell? ⟨q.bt, 0, none⟩ = some (.pointer (some ⟨q.bh, 0, none⟩)) := by rw [tc]; rfl
  have c2 : w.cell? ⟨q.bt, 2, none⟩ = some (.int .i64 b) := by rw [tc]; rfl
  have c4 : w.cell? ⟨q.bt, 4, none⟩ = some (.int .i64 v) := by rw [tc]; rfl
  have f4 := tf 4
  clear tc tf
  obtain ⟨d0, _, _, _, _⟩ := hS.hcell h
  have hd := h.drew
  have m0 : 0 ≤ 2 + b % room := by have := Int.emod_nonneg b (show room ≠ 0 by omega); omega
  have m1 : 2 + b % room < (ws.length : Int) := by have := Int.emod_lt_of_pos b (show 0 < room by omega); omega
  have HL := Lib.hid hlen
  clear hlen
  go_enter Try.func167, Try.ntmps167
  go_wp2_with fail
  go_region_held3 (fun w' => w'.cell? ⟨q.bt, 0, none⟩ = some (.pointer (some ⟨q.bh, 0, none⟩)) ∧ w'.cell? ⟨q.bt, 2, none⟩ = some (.int .i64 b) ∧ w'.cell? ⟨q.bh, 0, none⟩ = some (.int .i64 room)) (simp [*, World.cell?_setCell_other])
    (first
      | (go_at_call 145; refine (cell_at _ q.bt q.bh b room g0 g1 r1 r2 (by assumption) (by assumption)).mono ?_; rintro e w' ⟨rfl, rfl⟩)
      | (go_at_call 61; refine (value_at _ hv _).mono ?_; rintro e w' ⟨rfl, rfl⟩)
      | (go_at_call 147; refine (e_load W _ q ws log _ _ cs ss S F _ m0 m1 hb hS hd).mono ?_; rintro e w1 ⟨rfl, S1, hS1, h1⟩; obtain ⟨tc, tf, _⟩ := hS1.tcell h1; have k0 : w1.cell? ⟨q.bt, 0, none⟩ = some (.pointer (some ⟨q.bh, 0, none⟩)) := by {rw [tc]; rfl}; have k2 : w1.cell? ⟨q.bt, 2, none⟩ = some (.int .i64 b) := by {rw [tc]; rfl}; have k4 : w1.cell? ⟨q.bt, 4, none⟩ = some (.int .i64 v) := by {rw [tc]; rfl}; have k5 := tf 4; obtain ⟨k3, _, _, _, _⟩ := hS1.hcell h1; clear tc tf))
  obtain ⟨S2, hS2, h2⟩ := hS1.tset h1 4 (.int .i64 (wd ws (2 + b % room).toNat))
  clear hS h hd c0 c2 c4 d0 k0 k2 k3 k4 k5 hS1 h1 f4
  generalize w1.setCell ⟨q.bt, 4, none⟩ (.int .i64 (wd ws (2 + b % room).toNat)) = w2 at h2 ⊢
  obtain ⟨tc, tf, _⟩ := hS2.tcell h2
  have c2 : w2.cell? ⟨q.bt, 2, none⟩ = some (.int .i64 b) := by rw [tc]; rfl
  have c3 : w2.cell? ⟨q.bt, 3, none⟩ = some (.int .i64 t) := by rw [tc]; rfl
  clear tc tf
  have hc := h2.drew
  go_wp2_with fail
  go_region
  clear h2 c2 c3
  generalize w2.drew = w3 at hc ⊢
  obtain ⟨tc, tf, _⟩ := hS2.tcell hc
  have e0 : w3.cell? ⟨q.bt, 0, none⟩ = some (.pointer (some ⟨q.bh, 0, none⟩)) := by rw [tc]; rfl
  clear tc tf
  obtain ⟨_, d1, d2, d3, d4⟩ := hS2.hcell hc
  obtain ⟨hf, hne⟩ := hS2.hfree hc
  have f2 := hf 2
  clear hf
  obtain ⟨S4, hS4, h4⟩ := hS2.hset hc 2 (.bool false)
  obtain ⟨tc, _, _⟩ := hS4.tcell h4
  have e4 : (w3.setCell ⟨q.bh, 2, none⟩ (.bool false)).cell? ⟨q.bt, 4, none⟩ = some (.int .i64 (wd ws (2 + b % room).toNat)) := by rw [tc]; rfl
  clear tc
  go_wp2_with fail
  clear hc hS2 e0 d1 d2 d3 d4 f2 e4
  generalize w3.setCell ⟨q.bh, 2, none⟩ (.bool false) = w4 at h4 ⊢
  go_wp2_with fail
  refine (e_answer W w4 q _ _ _ _ _ _ S4 F true 2 (wd ws (2 + b % room).toNat) hS4 h4).mono ?_
  rintro e w5 ⟨rfl, S5, hS5, h5⟩
  go_wp2_with fail
  go_ret
  exact ⟨rfl, S5, hS5, h5⟩

set_option maxHeartbeats 1000000 in
theorem take_read (g0 : 0 ≤ b) (g1 : b ≤ 1000000000) (r1 : 1 ≤ room) (r2 : room ≤ 256) (hlen : (ws.length : Int) = 2 + room) (hb : log.length < 1048576) (hv : I64 (wd ws (2 + b % room).toNat)) (hlt : ¬ t < b)
    (hS : Env q false ws log (tkO 121 q.bh nx b t v [.bool got]) (hubO room top last rank at_) cs ss S) (h : Holds W w (S + F)) :
    Calls Try.prog 167 #[.pointer (some ⟨q.bt, 0, none⟩), .pointer (some ⟨q.k.bd, 0, none⟩)] w
      (EPost W q true ws (log ++ [⟨q.k.nw, q.k.th, 1, 2 + b % room, 0, 0, un (wd ws (2 + b % room).toNat)⟩]) (tkO 121 q.bh (.func (.func 169) #[.pointer (some ⟨q.bt, 0, none⟩)] #[]) b t (wd ws (2 + b % room).toNat) [.bool got]) (hubO room top last rank at_) cs ss F (.bool false)) := by
  obtain ⟨tc, tf, _⟩ := hS.tcell h
  have c0 : w.cell? ⟨q.bt, 0, none⟩ = some (.pointer (some ⟨q.bh, 0, none⟩)) := by rw [tc]; rfl
  have c2 : w.cell? ⟨q.bt, 2, none⟩ = some (.int .i64 b) := by rw [tc]; rfl
  have c4 : w.cell? ⟨q.bt, 4, none⟩ = some (.int .i64 v) := by rw [tc]; rfl
  have f4 := tf 4
  clear tc tf
  obtain ⟨d0, _, _, _, _⟩ := hS.hcell h
  have hd := h.drew
  have m0 : 0 ≤ 2 + b % room := by have := Int.emod_nonneg b (show room ≠ 0 by omega); omega
  have m1 : 2 + b % room < (ws.length : Int) := by have := Int.emod_lt_of_pos b (show 0 < room by omega); omega
  have HL := Lib.hid hlen
  clear hlen
  go_enter Try.func167, Try.ntmps167
  go_wp2_with fail
  go_region_held3 (fun w' => w'.cell? ⟨q.bt, 0, none⟩ = some (.pointer (some ⟨q.bh, 0, none⟩)) ∧ w'.cell? ⟨q.bt, 2, none⟩ = some (.int .i64 b) ∧ w'.cell? ⟨q.bh, 0, none⟩ = some (.int .i64 room)) (simp [*, World.cell?_setCell_other])
    (first
      | (go_at_call 145; refine (cell_at _ q.bt q.bh b room g0 g1 r1 r2 (by assumption) (by assumption)).mono ?_; rintro e w' ⟨rfl, rfl⟩)
      | (go_at_call 61; refine (value_at _ hv _).mono ?_; rintro e w' ⟨rfl, rfl⟩)
      | (go_at_call 147; refine (e_load W _ q ws log _ _ cs ss S F _ m0 m1 hb hS hd).mono ?_; rintro e w1 ⟨rfl, S1, hS1, h1⟩; obtain ⟨tc, tf, _⟩ := hS1.tcell h1; have k0 : w1.cell? ⟨q.bt, 0, none⟩ = some (.pointer (some ⟨q.bh, 0, none⟩)) := by {rw [tc]; rfl}; have k2 : w1.cell? ⟨q.bt, 2, none⟩ = some (.int .i64 b) := by {rw [tc]; rfl}; have k4 : w1.cell? ⟨q.bt, 4, none⟩ = some (.int .i64 v) := by {rw [tc]; rfl}; have k5 := tf 4; obtain ⟨k3, _, _, _, _⟩ := hS1.hcell h1; clear tc tf))
  obtain ⟨S2, hS2, h2⟩ := hS1.tset h1 4 (.int .i64 (wd ws (2 + b % room).toNat))
  clear hS h hd c0 c2 c4 d0 k0 k2 k3 k4 k5 hS1 h1 f4
  generalize w1.setCell ⟨q.bt, 4, none⟩ (.int .i64 (wd ws (2 + b % room).toNat)) = w2 at h2 ⊢
  obtain ⟨tc, tf, _⟩ := hS2.tcell h2
  have c2 : w2.cell? ⟨q.bt, 2, none⟩ = some (.int .i64 b) := by rw [tc]; rfl
  have c3 : w2.cell? ⟨q.bt, 3, none⟩ = some (.int .i64 t) := by rw [tc]; rfl
  clear tc tf
  have hc := h2.drew
  go_wp2_with fail
  go_region
  clear h2 c2 c3
  generalize w2.drew = w3 at hc ⊢
  obtain ⟨tc, tf, _⟩ := hS2.tcell hc
  have e1 : w3.cell? ⟨q.bt, 1, none⟩ = some (nx) := by rw [tc]; rfl
  have f1 := tf 1
  clear tc tf
  go_wp2_with fail
  go_ret
  obtain ⟨S7, hS7, h7⟩ := hS2.tset hc 1 (.func (.func 169) #[.pointer (some ⟨q.bt, 0, none⟩)] #[])
  exact ⟨rfl, S7, hS7, h7⟩

end
end Go.Proofs.Ythifeaigdobonaa
