/- The deque's OpDequePush: its accesses, one by one. -/
import Derived.Test.YthifeaigdobonaaDqa
import Derived.Laws.EntriesVeiled
namespace Go.Proofs.Ythifeaigdobonaa
open Go.RowKit

section
variable (W w : World) (q : EK) (ws : List Int) (log : List Acc) (room top rank at_ : Int) (last : Bool) (cs ss : Array Value) (S F : Hp) (nx : Value) (b t v : Int)

theorem push_ready (hS : Env q false ws log (tkO 117 q.bh nx b t v []) (hubO room top last rank at_) cs ss S) (h : Holds W w (S + F)) :
    Calls Try.prog 143 #[.pointer (some ⟨q.bt, 0, none⟩), .pointer (some ⟨q.k.bd, 0, none⟩)] w
      (EPost W q false ws log (tkO 117 q.bh (.func (.func 146) #[.pointer (some ⟨q.bt, 0, none⟩)] #[]) b t v []) (hubO room top last rank at_) cs ss F (.bool false)) := by
  obtain ⟨tc, tf, _⟩ := hS.tcell h
  have c1 : w.cell? ⟨q.bt, 1, none⟩ = some nx := by rw [tc]; rfl
  have f1 := tf 1
  clear tc tf
  go_enter Try.func143, Try.ntmps143
  go_wp2
  go_ret
  obtain ⟨S1, h1, h2⟩ := hS.tset h 1 (.func (.func 146) #[.pointer (some ⟨q.bt, 0, none⟩)] #[])
  exact ⟨rfl, S1, h1, h2⟩

set_option maxHeartbeats 400000 in
theorem push_bottom (h2 : 2 ≤ ws.length) (hv : I64 (wd ws 1)) (hb : log.length < 1048576) (hS : Env q false ws log (tkO 117 q.bh nx b t v []) (hubO room top last rank at_) cs ss S) (h : Holds W w (S + F)) :
    Calls Try.prog 146 #[.pointer (some ⟨q.bt, 0, none⟩), .pointer (some ⟨q.k.bd, 0, none⟩)] w
      (EPost W q true ws (log ++ [⟨q.k.nw, q.k.th, 1, 1, 0, 0, un (wd ws 1)⟩]) (tkO 117 q.bh (.func (.func 148) #[.pointer (some ⟨q.bt, 0, none⟩)] #[]) (wd ws 1) t v []) (hubO room top last rank at_) cs ss F (.bool false)) := by
  go_enter Try.func146, Try.ntmps146
  go_wp2_with fail
  refine (e_load W w q ws log _ _ cs ss S F 1 (by omega) (by omega) hb hS h).mono ?_
  rintro e w1 ⟨rfl, S1, hS1, h1⟩
  rw [show (1 : Int).toNat = 1 from rfl] at *
  clear hS h
  go_wp2_with fail
  refine (value_at _ hv _).mono ?_
  rintro e w' ⟨rfl, rfl⟩
  obtain ⟨tc, tf, _⟩ := hS1.tcell h1
  have c2 : w1.cell? ⟨q.bt, 2, none⟩ = some (.int .i64 b) := by rw [tc]; rfl
  have c1 : w1.cell? ⟨q.bt, 1, none⟩ = some nx := by rw [tc]; rfl
  have f1 := tf 1
  have f2 := tf 2
  clear tc tf
  go_wp2_with fail
  go_ret
  obtain ⟨S2, hS2, h2⟩ := hS1.tset h1 2 (.int .i64 (wd ws 1))
  obtain ⟨S3, hS3, h3⟩ := hS2.tset h2 1 (.func (.func 148) #[.pointer (some ⟨q.bt, 0, none⟩)] #[])
  exact ⟨rfl, S3, hS3, h3⟩

set_option maxHeartbeats 800000 in
theorem push_full (h2 : 2 ≤ ws.length) (hv : I64 (wd ws 0)) (hb : log.length < 1048576) (hfull : room ≤ b - wd ws 0) (b1 : -1000000000 ≤ b ∧ b ≤ 1000000000) (b2 : -1000000000 ≤ wd ws 0 ∧ wd ws 0 ≤ 1000000000)
    (hS : Env q false ws log (tkO 117 q.bh nx b t v []) (hubO room top last rank at_) cs ss S) (h : Holds W w (S + F)) :
    Calls Try.prog 148 #[.pointer (some ⟨q.bt, 0, none⟩), .pointer (some ⟨q.k.bd, 0, none⟩)] w
      (EPost W q true ws (log ++ [⟨q.k.nw, q.k.th, 1, 0, 0, 0, un (wd ws 0)⟩]) (tkO 117 q.bh nx b t v []) (hubO room top last rank at_)
        (cs.setIfInBounds (q.oc + 6) (.int .i64 q.k.nw)) ((ss.setIfInBounds q.os (.int .i64 4)).setIfInBounds (q.os + 1) (.int .i64 0)) F (.bool true)) := by
  obtain ⟨tc, _, _⟩ := hS.tcell h
  have c0 : w.cell? ⟨q.bt, 0, none⟩ = some (.pointer (some ⟨q.bh, 0, none⟩)) := by rw [tc]; rfl
  have c2 : w.cell? ⟨q.bt, 2, none⟩ = some (.int .i64 b) := by rw [tc]; rfl
  obtain ⟨d0, _, _, _, _⟩ := hS.hcell h
  clear tc
  have hd := h.drew
  have hw : IntKind.i64.wrap (b - wd ws 0) = b - wd ws 0 := IntWalk.i64_in _ (by omega)
  go_enter Try.func148, Try.ntmps148
  go_wp2_with fail
  go_region_held3 (fun w' => w'.cell? ⟨q.bt, 0, none⟩ = some (.pointer (some ⟨q.bh, 0, none⟩)) ∧ w'.cell? ⟨q.bt, 2, none⟩ = some (.int .i64 b) ∧ w'.cell? ⟨q.bh, 0, none⟩ = some (.int .i64 room)) (go_keep)
    (first
      | (go_at_call 147; refine (e_load W _ q ws log _ _ cs ss S F 0 (by decide) (by omega) hb hS hd).mono ?_; rintro e w2 ⟨rfl, S2, hS2, h2⟩; obtain ⟨tc, _, _⟩ := hS2.tcell h2; have k0 : w2.cell? ⟨q.bt, 0, none⟩ = some (.pointer (some ⟨q.bh, 0, none⟩)) := by {rw [tc]; rfl}; have k2 : w2.cell? ⟨q.bt, 2, none⟩ = some (.int .i64 b) := by {rw [tc]; rfl}; obtain ⟨k3, _, _, _, _⟩ := hS2.hcell h2; clear tc)
      | (go_at_call 61; refine (value_at _ hv _).mono ?_; rintro e w' ⟨rfl, rfl⟩))
  rw [show (0 : Int).toNat = 0 from rfl] at *
  clear hS h hd c0 c2 d0 k0 k2 k3 hw
  go_wp2_with fail
  refine (e_now W w2 q ws _ _ _ cs ss S2 F true hS2 h2).mono ?_
  rintro e w' ⟨rfl, rfl⟩
  go_wp2_with fail
  refine (e_point W w2 q ws _ _ _ cs ss S2 F true q.k.nw hS2 h2).mono ?_
  rintro e w3 ⟨rfl, S3, hS3, h3⟩
  go_wp2_with fail
  refine (e_answer W w3 q ws _ _ _ _ ss S3 F true 4 0 hS3 h3).mono ?_
  rintro e w4 ⟨rfl, S4, hS4, h4⟩
  go_wp2_with fail
  go_ret
  exact ⟨rfl, S4, hS4, h4⟩

set_option maxHeartbeats 800000 in
theorem push_look (h2 : 2 ≤ ws.length) (hv : I64 (wd ws 0)) (hb : log.length < 1048576) (hroom : b - wd ws 0 < room) (b1 : -1000000000 ≤ b ∧ b ≤ 1000000000) (b2 : -1000000000 ≤ wd ws 0 ∧ wd ws 0 ≤ 1000000000)
    (hS : Env q false ws log (tkO 117 q.bh nx b t v []) (hubO room top last rank at_) cs ss S) (h : Holds W w (S + F)) :
    Calls Try.prog 148 #[.pointer (some ⟨q.bt, 0, none⟩), .pointer (some ⟨q.k.bd, 0, none⟩)] w
      (EPost W q true ws (log ++ [⟨q.k.nw, q.k.th, 1, 0, 0, 0, un (wd ws 0)⟩]) (tkO 117 q.bh (.func (.func 154) #[.pointer (some ⟨q.bt, 0, none⟩)] #[]) b t v []) (hubO room top last rank at_)
        cs ss F (.bool false)) := by
  obtain ⟨tc, _, _⟩ := hS.tcell h
  have c0 : w.cell? ⟨q.bt, 0, none⟩ = some (.pointer (some ⟨q.bh, 0, none⟩)) := by rw [tc]; rfl
  have c2 : w.cell? ⟨q.bt, 2, none⟩ = some (.int .i64 b) := by rw [tc]; rfl
  obtain ⟨d0, _, _, _, _⟩ := hS.hcell h
  clear tc
  have hd := h.drew
  have hw : IntKind.i64.wrap (b - wd ws 0) = b - wd ws 0 := IntWalk.i64_in _ (by omega)
  go_enter Try.func148, Try.ntmps148
  go_wp2_with fail
  go_region_held3 (fun w' => w'.cell? ⟨q.bt, 0, none⟩ = some (.pointer (some ⟨q.bh, 0, none⟩)) ∧ w'.cell? ⟨q.bt, 2, none⟩ = some (.int .i64 b) ∧ w'.cell? ⟨q.bh, 0, none⟩ = some (.int .i64 room)) (go_keep)
    (first
      | (go_at_call 147; refine (e_load W _ q ws log _ _ cs ss S F 0 (by decide) (by omega) hb hS hd).mono ?_; rintro e w2 ⟨rfl, S2, hS2, h2⟩; obtain ⟨tc, _, _⟩ := hS2.tcell h2; have k0 : w2.cell? ⟨q.bt, 0, none⟩ = some (.pointer (some ⟨q.bh, 0, none⟩)) := by {rw [tc]; rfl}; have k2 : w2.cell? ⟨q.bt, 2, none⟩ = some (.int .i64 b) := by {rw [tc]; rfl}; obtain ⟨k3, _, _, _, _⟩ := hS2.hcell h2; clear tc)
      | (go_at_call 61; refine (value_at _ hv _).mono ?_; rintro e w' ⟨rfl, rfl⟩))
  rw [show (0 : Int).toNat = 0 from rfl] at *
  clear hS h hd c0 c2 d0 k0 k2 k3 hw
  obtain ⟨tc, tf, _⟩ := hS2.tcell h2
  have c1 : w2.cell? ⟨q.bt, 1, none⟩ = some nx := by rw [tc]; rfl
  have f1 := tf 1
  clear tc tf
  go_wp2_with fail
  go_ret
  obtain ⟨S3, hS3, h3⟩ := hS2.tset h2 1 (.func (.func 154) #[.pointer (some ⟨q.bt, 0, none⟩)] #[])
  exact ⟨rfl, S3, hS3, h3⟩

set_option maxHeartbeats 800000 in
theorem push_fill (g0 : 0 ≤ b) (g1 : b ≤ 1000000000) (r1 : 1 ≤ room) (r2 : room ≤ 256) (hlen : (ws.length : Int) = 2 + room) (hb : log.length < 1048576)
    (hS : Env q false ws log (tkO 117 q.bh nx b t v []) (hubO room top last rank at_) cs ss S) (h : Holds W w (S + F)) :
    Calls Try.prog 154 #[.pointer (some ⟨q.bt, 0, none⟩), .pointer (some ⟨q.k.bd, 0, none⟩)] w
      (EPost W q true (ws.set (2 + b % room).toNat v) (log ++ [⟨q.k.nw, q.k.th, 2, 2 + b % room, 0, un v, 0⟩]) (tkO 117 q.bh (.func (.func 161) #[.pointer (some ⟨q.bt, 0, none⟩)] #[]) b t v []) (hubO room top last rank at_)
        cs ss F (.bool false)) := by
  obtain ⟨tc, _, _⟩ := hS.tcell h
  have c0 : w.cell? ⟨q.bt, 0, none⟩ = some (.pointer (some ⟨q.bh, 0, none⟩)) := by rw [tc]; rfl
  have c2 : w.cell? ⟨q.bt, 2, none⟩ = some (.int .i64 b) := by rw [tc]; rfl
  have c4 : w.cell? ⟨q.bt, 4, none⟩ = some (.int .i64 v) := by rw [tc]; rfl
  obtain ⟨d0, _, _, _, _⟩ := hS.hcell h
  clear tc
  have hd := h.drew
  have m0 : 0 ≤ 2 + b % room := by have := Int.emod_nonneg b (show room ≠ 0 by omega); omega
  have m1 : 2 + b % room < (ws.length : Int) := by have := Int.emod_lt_of_pos b (show 0 < room by omega); omega
  have HL := Lib.hid hlen
  clear hlen
  go_enter Try.func154, Try.ntmps154
  go_wp2_with fail
  go_region_held3 (fun w' => w'.cell? ⟨q.bt, 0, none⟩ = some (.pointer (some ⟨q.bh, 0, none⟩)) ∧ w'.cell? ⟨q.bt, 2, none⟩ = some (.int .i64 b) ∧ w'.cell? ⟨q.bt, 4, none⟩ = some (.int .i64 v) ∧ w'.cell? ⟨q.bh, 0, none⟩ = some (.int .i64 room)) (go_keep)
    (first
      | (go_at_call 145; refine (cell_at _ q.bt q.bh b room g0 g1 r1 r2 (by assumption) (by assumption)).mono ?_; rintro e w' ⟨rfl, rfl⟩)
      | (go_at_call 160; refine (number_at v _).mono ?_; rintro e w' ⟨rfl, rfl⟩)
      | (go_at_call 159; refine (e_store W _ q ws log _ _ cs ss S F _ v m0 m1 hb hS hd).mono ?_; rintro e w2 ⟨rfl, S2, hS2, h2⟩; obtain ⟨tc, _, _⟩ := hS2.tcell h2; have k0 : w2.cell? ⟨q.bt, 0, none⟩ = some (.pointer (some ⟨q.bh, 0, none⟩)) := by {rw [tc]; rfl}; have k2 : w2.cell? ⟨q.bt, 2, none⟩ = some (.int .i64 b) := by {rw [tc]; rfl}; have k4 : w2.cell? ⟨q.bt, 4, none⟩ = some (.int .i64 v) := by {rw [tc]; rfl}; obtain ⟨k3, _, _, _, _⟩ := hS2.hcell h2; clear tc))
  clear hS h hd c0 c2 c4 d0 k0 k2 k3 k4
  obtain ⟨tc, tf, _⟩ := hS2.tcell h2
  have c1 : w2.cell? ⟨q.bt, 1, none⟩ = some nx := by rw [tc]; rfl
  have f1 := tf 1
  clear tc tf
  go_wp2_with fail
  go_ret
  obtain ⟨S3, hS3, h3⟩ := hS2.tset h2 1 (.func (.func 161) #[.pointer (some ⟨q.bt, 0, none⟩)] #[])
  exact ⟨rfl, S3, hS3, h3⟩

set_option maxHeartbeats 800000 in
theorem push_tell (h2 : 2 ≤ ws.length) (hb : log.length < 1048576) (b1 : -1000000000 ≤ b ∧ b ≤ 1000000000)
    (hS : Env q false ws log (tkO 117 q.bh nx b t v []) (hubO room top last rank at_) cs ss S) (h : Holds W w (S + F)) :
    Calls Try.prog 161 #[.pointer (some ⟨q.bt, 0, none⟩), .pointer (some ⟨q.k.bd, 0, none⟩)] w
      (EPost W q true (ws.set 1 (b + 1)) (log ++ [⟨q.k.nw, q.k.th, 2, 1, 0, un (b + 1), 0⟩]) (tkO 117 q.bh nx b t v []) (hubO room top last rank at_)
        (cs.setIfInBounds (q.oc + 6) (.int .i64 q.k.nw)) ((ss.setIfInBounds q.os (.int .i64 1)).setIfInBounds (q.os + 1) (.int .i64 0)) F (.bool true)) := by
  obtain ⟨tc, _, _⟩ := hS.tcell h
  have c2 : w.cell? ⟨q.bt, 2, none⟩ = some (.int .i64 b) := by rw [tc]; rfl
  clear tc
  go_enter Try.func161, Try.ntmps161
  go_wp2_with fail
  refine (number_at (b + 1) _).mono ?_
  rintro e w' ⟨rfl, rfl⟩
  go_wp2_with fail
  refine (e_store W w q ws log _ _ cs ss S F 1 (b + 1) (by decide) (by omega) hb hS h).mono ?_
  rintro e w2 ⟨rfl, S2, hS2, h2⟩
  rw [show (1 : Int).toNat = 1 from rfl] at *
  clear hS h c2
  go_wp2_with fail
  refine (e_now W w2 q _ _ _ _ cs ss S2 F true hS2 h2).mono ?_
  rintro e w' ⟨rfl, rfl⟩
  go_wp2_with fail
  refine (e_point W w2 q _ _ _ _ cs ss S2 F true q.k.nw hS2 h2).mono ?_
  rintro e w3 ⟨rfl, S3, hS3, h3⟩
  go_wp2_with fail
  refine (e_answer W w3 q _ _ _ _ _ ss S3 F true 1 0 hS3 h3).mono ?_
  rintro e w4 ⟨rfl, S4, hS4, h4⟩
  go_wp2_with fail
  go_ret
  exact ⟨rfl, S4, hS4, h4⟩

end
end Go.Proofs.Ythifeaigdobonaa
