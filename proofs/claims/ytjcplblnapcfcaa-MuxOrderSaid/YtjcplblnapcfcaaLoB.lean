/-
  MuxOrder: the law's main way.
-/
import Derived.Test.YtjcplblnapcfcaaLoA
set_option linter.unusedSimpArgs false
namespace Go.Proofs.Ytjcplblnapcfcaa
open Go Go.Gat Go.Conc Go.RowKit

section
variable {W : World} {za zb : List Int} {room : Nat}

/-- What is known on the way. -/
structure Or (W w : World) (a0 b0 : Option Addr) (za zb : List Int) (bx cx by_ cy room : Nat) (lx ly : List Int) : Prop where
  two : Two W w bx cx by_ cy room lx ly
  a : IntsAt w W.heap.size a0 za
  b : IntsAt w W.heap.size b0 zb
theorem Or.re {w : World} {a0 b0 : Option Addr} {bx cx by_ cy : Nat} {lx ly : List Int} (h : Or W w a0 b0 za zb bx cx by_ cy room lx ly) (τ : Nat → Question → Nat) (d : Nat) : Or W (re w τ d) a0 b0 za zb bx cx by_ cy room lx ly :=
  ⟨h.two.re τ d, h.a.kp h.two.kp (h.two.re τ d).kp, h.b.kp h.two.kp (h.two.re τ d).kp⟩
theorem Or.to {w w' : World} {a0 b0 : Option Addr} {bx cx by_ cy : Nat} {lx ly lx' ly' : List Int} (h : Or W w a0 b0 za zb bx cx by_ cy room lx ly) (t : Two W w' bx cx by_ cy room lx' ly') : Or W w' a0 b0 za zb bx cx by_ cy room lx' ly' :=
  ⟨t, h.a.kp h.two.kp t.kp, h.b.kp h.two.kp t.kp⟩

theorem IntsAt.get {w : World} {B : Nat} {a : Option Addr} {zs : List Int} (h : IntsAt w B a zs) {k : Nat} (hk : k < zs.length) : ∃ blk off, a = some ⟨blk, off, none⟩ ∧ w.cell? ⟨blk, off + k, none⟩ = some (.int .i64 zs[k]) := by
  obtain ⟨blk, off, e, _, hc⟩ := h.at_ (by omega)
  exact ⟨blk, off, e, hc k hk⟩

/-- One thing offered, whether there is room or not. -/
theorem offer_any {w : World} {b c cap s r : Nat} {l : List Int} {z : Int} (h : BoxAt w b c cap s r l) : Calls Try.prog 10 #[.pointer (some ⟨b, 0, none⟩), .int .i64 z] w fun e w' => ∃ ok s', e = .returned (.bool ok) ∧ w' = (if l.length < cap then w.setChan c cap ((l ++ [z]).map iv).toArray false s' r false else w) ∧ ok = decide (l.length < cap) := by
  by_cases hl : l.length < cap
  · refine (offer_room b c cap s r _ (.int .i64 z) w h.cell h.chan (by simpa using hl)).mono ?_
    rintro e w' ⟨rfl, rfl⟩
    refine ⟨true, s + 1, rfl, ?_, by simp [hl]⟩
    rw [if_pos hl]
    simp [iv]
  · refine (offer_full b c cap s r _ (.int .i64 z) w h.cell h.chan (by simp; omega)).mono ?_
    rintro e w' ⟨rfl, rfl⟩
    exact ⟨false, 0, rfl, by rw [if_neg hl], by simp [hl]⟩

theorem take_step (zs : List Int) (k room : Nat) (hk : k < zs.length) : (zs.take (min (k + 1) room)) = if (zs.take (min k room)).length < room then zs.take (min k room) ++ [zs[k]] else zs.take (min k room) := by
  by_cases h : k < room
  · have e1 : min k room = k := by omega
    have e2 : min (k + 1) room = k + 1 := by omega
    rw [e1, e2, if_pos (by simp; omega), List.take_succ_eq_append_getElem hk]
  · have e1 : min k room = room := by omega
    have e2 : min (k + 1) room = room := by omega
    rw [e1, e2, if_neg (by simp; omega)]

theorem Or.offer_x {w : World} {a0 b0 : Option Addr} {bx cx by_ cy k : Nat} {ly : List Int} (h : Or W w a0 b0 za zb bx cx by_ cy room (za.take (min k room)) ly) (hk : k < za.length) :
    Calls Try.prog 10 #[.pointer (some ⟨bx, 0, none⟩), .int .i64 za[k]] w fun e w' => ∃ ok, e = .returned (.bool ok) ∧ Or W w' a0 b0 za zb bx cx by_ cy room (za.take (min (k + 1) room)) ly := by
  obtain ⟨s, r, hx⟩ := h.two.x
  refine (offer_any hx).mono ?_
  rintro e w' ⟨ok, s', rfl, rfl, _⟩
  refine ⟨ok, rfl, ?_⟩
  rw [take_step za k room hk]
  split
  · exact h.to (h.two.setx s' r)
  · exact h
theorem Or.offer_y {w : World} {a0 b0 : Option Addr} {bx cx by_ cy k : Nat} {lx : List Int} (h : Or W w a0 b0 za zb bx cx by_ cy room lx (zb.take (min k room))) (hk : k < zb.length) :
    Calls Try.prog 10 #[.pointer (some ⟨by_, 0, none⟩), .int .i64 zb[k]] w fun e w' => ∃ ok, e = .returned (.bool ok) ∧ Or W w' a0 b0 za zb bx cx by_ cy room lx (zb.take (min (k + 1) room)) := by
  obtain ⟨s, r, hy⟩ := h.two.y
  refine (offer_any hy).mono ?_
  rintro e w' ⟨ok, s', rfl, rfl, _⟩
  refine ⟨ok, rfl, ?_⟩
  rw [take_step zb k room hk]
  split
  · exact h.to (h.two.sety s' r)
  · exact h

theorem cells_new3 (w : World) (p q r : Value) : ∀ j x, [p, q, r][j]? = some x → (w.alloc (.cells #[p, q, r] 27)).cell? ⟨w.heap.size, 0 + j, none⟩ = some x := fun j x hx => by
  have h := heap_alloc_at w (.cells #[p, q, r] 27)
  simp only [World.cell?, h, Nat.zero_add]
  simpa using hx
theorem cells_new2 (w : World) (p q : Value) : ∀ j x, [p, q][j]? = some x → (w.alloc (.cells #[p, q] 27)).cell? ⟨w.heap.size, 0 + j, none⟩ = some x := fun j x hx => by
  have h := heap_alloc_at w (.cells #[p, q] 27)
  simp only [World.cell?, h, Nat.zero_add]
  simpa using hx

theorem Or.first_x {w : World} {a0 b0 : Option Addr} {bx cx by_ cy : Nat} {x : Int} {lx ly : List Int} (h : Or W w a0 b0 za zb bx cx by_ cy room (x :: lx) ly) :
    Calls Try.prog 14 #[.slice (some ⟨w.heap.size, 0, none⟩) 3 3] (w.alloc (.cells #[.pointer (some ⟨bx, 0, none⟩), .pointer none, .pointer (some ⟨by_, 0, none⟩)] 27)) fun e w' => e = .returned (.tuple #[.int .i64 0, .int .i64 x, .bool true]) ∧ Or W w' a0 b0 za zb bx cx by_ cy room lx ly := by
  have h2 := h.to (h.two.alloc (.cells #[.pointer (some ⟨bx, 0, none⟩), .pointer none, .pointer (some ⟨by_, 0, none⟩)] 27))
  obtain ⟨s, r, hx⟩ := h2.two.x
  refine (first_some w.heap.size 0 [.pointer (some ⟨bx, 0, none⟩), .pointer none, .pointer (some ⟨by_, 0, none⟩)] 3 _ (by simp) (cells_new3 w _ _ _) 0 bx cx room s r x lx rfl (fun j _ hj => absurd hj (by omega)) hx).mono ?_
  rintro e w' ⟨rfl, rfl⟩
  exact ⟨rfl, h2.to (h2.two.setx s (r + 1))⟩
theorem Or.first_y {w : World} {a0 b0 : Option Addr} {bx cx by_ cy : Nat} {y : Int} {ly : List Int} (h : Or W w a0 b0 za zb bx cx by_ cy room [] (y :: ly)) :
    Calls Try.prog 14 #[.slice (some ⟨w.heap.size, 0, none⟩) 3 3] (w.alloc (.cells #[.pointer (some ⟨bx, 0, none⟩), .pointer none, .pointer (some ⟨by_, 0, none⟩)] 27)) fun e w' => e = .returned (.tuple #[.int .i64 2, .int .i64 y, .bool true]) ∧ Or W w' a0 b0 za zb bx cx by_ cy room [] ly := by
  have h2 := h.to (h.two.alloc (.cells #[.pointer (some ⟨bx, 0, none⟩), .pointer none, .pointer (some ⟨by_, 0, none⟩)] 27))
  obtain ⟨s, r, hy⟩ := h2.two.y
  obtain ⟨s', r', hx⟩ := h2.two.x
  refine (first_some w.heap.size 0 [.pointer (some ⟨bx, 0, none⟩), .pointer none, .pointer (some ⟨by_, 0, none⟩)] 3 _ (by simp) (cells_new3 w _ _ _) 2 by_ cy room s r y ly rfl (fun j p hj hp => ?_) hy).mono ?_
  · match j, hp with
    | 0, hp => simp at hp; subst hp; exact .inr ⟨bx, cx, room, s', r', rfl, hx⟩
    | 1, hp => simp at hp; subst hp; exact .inl rfl
  rintro e w' ⟨rfl, rfl⟩
  exact ⟨rfl, h2.to (h2.two.sety s (r + 1))⟩
theorem Or.first_no {w : World} {a0 b0 : Option Addr} {bx cx by_ cy : Nat} (h : Or W w a0 b0 za zb bx cx by_ cy room [] []) :
    Calls Try.prog 14 #[.slice (some ⟨w.heap.size, 0, none⟩) 2 2] (w.alloc (.cells #[.pointer (some ⟨bx, 0, none⟩), .pointer (some ⟨by_, 0, none⟩)] 27)) fun e w' => e = .returned (.tuple #[.int .i64 (-1), .int .i64 0, .bool false]) ∧ KP W w' := by
  have h2 := h.to (h.two.alloc (.cells #[.pointer (some ⟨bx, 0, none⟩), .pointer (some ⟨by_, 0, none⟩)] 27))
  obtain ⟨s, r, hy⟩ := h2.two.y
  obtain ⟨s', r', hx⟩ := h2.two.x
  refine (first_none (some ⟨w.heap.size, 0, none⟩) [.pointer (some ⟨bx, 0, none⟩), .pointer (some ⟨by_, 0, none⟩)] 2 _ (by simp) (fun _ => ⟨_, _, rfl, cells_new2 w _ _⟩) (fun p hp => ?_)).mono ?_
  · simp only [List.mem_cons, List.not_mem_nil, or_false] at hp
    rcases hp with rfl | rfl
    · exact .inr ⟨bx, cx, room, s', r', rfl, hx⟩
    · exact .inr ⟨by_, cy, room, s, r, rfl, hy⟩
  rintro e w' ⟨rfl, rfl⟩
  exact ⟨rfl, h2.two.kp⟩

set_option maxRecDepth 100000 in
set_option maxHeartbeats 8000000 in
theorem order_main (a0 b0 : Option Addr) (ca cb : Nat) (hn : za.length ≤ 500) (hm : zb.length ≤ 500) (hr : room ≤ 1000) (ha : IntsAt W W.heap.size a0 za) (hb : IntsAt W W.heap.size b0 zb) :
    Gwp Try.prog orB (OrPost W) ⟨#[.slice a0 za.length ca, .slice b0 zb.length cb, .int .i64 room] ++ Array.replicate 181 undef, []⟩ W := by
  have hP := plain
  simp only [orB, Try.f4, Option.getD_some, Array.replicate_succ, Array.replicate_zero]
  walk_nrm
  refine gwp_seq hP (gwp_of_wp hP (fun _ _ h => h) (fun _ _ _ h => h) fun τ d => ?_)
  go_wp2
  have hk : KP W (re W τ d) := rely_re τ d
  generalize re W τ d = w at hk ⊢
  have n1 : ¬ 500 < za.length := by omega
  have n2 : ¬ 500 < zb.length := by omega
  have n3 : ¬ 1000 < room := by omega
  -- the first test
  refine gwp_seq hP (gwp_of_wp hP (fun _ _ h => h) (fun _ _ _ h => h) fun τ d => ?_)
  have hk : KP W (re w τ d) := hk.trans (rely_re τ d)
  generalize re w τ d = w at hk ⊢
  go_wp2
  clear n1 n2 n3
  -- the boxes
  refine gwp_seq hP (gwp_of_wp hP (fun _ _ h => h) (fun _ _ _ h => h) fun τ d => ?_)
  have hk : KP W (re w τ d) := hk.trans (rely_re τ d)
  generalize re w τ d = w at hk ⊢
  go_wp2_with fail
  refine (new_fresh room (by omega) w).mono ?_
  rintro e w₁ ⟨bx, cx, rfl, fx⟩
  go_wp2
  refine gwp_seq hP (gwp_of_wp hP (fun _ _ h => h) (fun _ _ _ h => h) fun τ d => ?_)
  go_wp2_with fail
  refine (new_fresh room (by omega) (re w₁ τ d)).mono ?_
  rintro e w₂ ⟨by_, cy, rfl, fy⟩
  have hO : Or W w₂ a0 b0 za zb bx cx by_ cy room (za.take (min 0 room)) (zb.take (min 0 room)) := by
    have hw1 : w₁.heap.size ≤ cy := fy.newc
    have hw2 : w₁.heap.size ≤ by_ := fy.newb
    have hcx : cx < w₁.heap.size := (Array.getElem?_eq_some_iff.1 fx.chan).1
    have hbx := fx.lt
    have s0 := hk.size
    have f1 := fx.newc
    have f2 := fx.newb
    have k1 : KP W w₁ := kp_trans hk fx.kp
    have k2 : KP W w₂ := kp_trans (k1.trans (rely_re τ d)) fy.kp
    have e0 : min 0 room = 0 := by omega
    rw [e0]
    refine ⟨⟨k2, ⟨0, 0, ?_, ?_⟩, ⟨0, 0, fy.cell, fy.chan⟩, by omega, by omega, fx.ne, by omega, by omega, fy.ne, by omega⟩, ha.kp (KP.refl W) k2, hb.kp (KP.refl W) k2⟩
    · exact (World.cell?_of_block (a := ⟨bx, 0, none⟩) (fy.kp.keep bx (.inl hbx) hbx)).trans fx.cell
    · exact (fy.kp.keep cx (.inl hcx) hcx).trans fx.chan
  clear fx fy hk ha hb
  go_wp2
  -- the second test
  refine gwp_seq hP (gwp_of_wp hP (fun _ _ h => h) (fun _ _ _ h => h) fun τ d => ?_)
  replace hO := hO.re τ d
  generalize re w₂ τ d = w at hO ⊢
  go_wp2
  -- a is offered
  refine gwp_seq hP (gwp_of_wp hP (fun _ _ h => h) (fun _ _ _ h => h) fun τ d => ?_)
  replace hO := hO.re τ d
  generalize re w τ d = w at hO ⊢
  go_wp2
  go_loopw [11] (fun i w' => ∃ k : Nat, k ≤ za.length ∧ i = .int .i64 k ∧ Or W w' a0 b0 za zb bx cx by_ cy room (za.take (min k room)) (zb.take (min 0 room))) (fun i _ => za.length - (intOf i).toNat)
  case atStart => exact ⟨0, by omega, rfl, hO⟩
  case round =>
    obtain ⟨k, hk, rfl, hO⟩ := hrel
    by_cases hlt : k < za.length
    · obtain ⟨blk, off, rfl, hcell⟩ := hO.a.get hlt
      have hof := hO.offer_x hlt
      clear hO
      go_wp2_with (go_at_call 10; refine hof.mono ?_; rintro e w' ⟨ok, rfl, hO⟩)
      go_roundw
      case rel => exact ⟨k + 1, by omega, by go_num, hO⟩
      case measure => simp [intOf]; omega
    · obtain rfl : k = za.length := by omega
      clear hlt hk
      go_wp2
      -- b is offered
      refine gwp_seq hP (gwp_of_wp hP (fun _ _ h => h) (fun _ _ _ h => h) fun τ d => ?_)
      replace hO := hO.re τ d
      generalize re wr τ d = w at hO ⊢
      go_wp2
      go_loopw [12] (fun i w' => ∃ k : Nat, k ≤ zb.length ∧ i = .int .i64 k ∧ Or W w' a0 b0 za zb bx cx by_ cy room (za.take (min za.length room)) (zb.take (min k room))) (fun i _ => zb.length - (intOf i).toNat)
      case atStart => exact ⟨0, by omega, rfl, hO⟩
      case round =>
        obtain ⟨k, hk, rfl, hO⟩ := hrel
        by_cases hlt : k < zb.length
        · obtain ⟨blk, off, rfl, hcell⟩ := hO.b.get hlt
          have hof := hO.offer_y hlt
          clear hO
          go_wp2_with (go_at_call 10; refine hof.mono ?_; rintro e w' ⟨ok, rfl, hO⟩)
          go_roundw
          case rel => exact ⟨k + 1, by omega, by go_num, hO⟩
          case measure => simp [intOf]; omega
        · obtain rfl : k = zb.length := by omega
          clear hlt hk
          go_wp2
          refine gwp_seq hP (gwp_of_wp hP (fun _ _ h => h) (fun _ _ _ h => h) fun τ d => ?_)
          replace hO := hO.re τ d
          rename_i wr2 _ _ _ _ _ _ _ _ _ _ _ _
          generalize re _ τ d = w at hO ⊢
          go_wp2
          have e1 : (min (za.length : Int) (room : Int)) = ((min za.length room : Nat) : Int) := by omega
          have e2 : (min (zb.length : Int) (room : Int)) = ((min zb.length room : Nat) : Int) := by omega
          simp only [e1, e2]
          clear e1 e2
          have h1 : min za.length room ≤ za.length := Nat.min_le_left _ _
          have h2 : min zb.length room ≤ zb.length := Nat.min_le_left _ _
          generalize min za.length room = n0 at hO h1 ⊢
          generalize min zb.length room = m0 at hO h2 ⊢
          replace hO : Or W w a0 b0 za zb bx cx by_ cy room ((za.take n0).drop 0) ((zb.take m0).drop (0 - n0)) := by simpa using hO
          -- First, till all is out
          refine gwp_seq hP (gwp_of_wp hP (fun _ _ h => h) (fun _ _ _ h => h) fun τ d => ?_)
          replace hO := hO.re τ d
          generalize re w τ d = w at hO ⊢
          go_wp2
          go_loopw [15] (fun i w' => ∃ k : Nat, k ≤ n0 + m0 ∧ i = .int .i64 k ∧ Or W w' a0 b0 za zb bx cx by_ cy room ((za.take n0).drop k) ((zb.take m0).drop (k - n0))) (fun i _ => n0 + m0 - (intOf i).toNat)
          case atStart => exact ⟨0, by omega, rfl, hO⟩
          case round =>
            obtain ⟨k, hk, rfl, hO⟩ := hrel
            by_cases hlt : k < n0 + m0
            · by_cases hkn : k < n0
              · have hka : k < za.length := by omega
                have e1 : (za.take n0).drop k = za[k] :: (za.take n0).drop (k + 1) := by
                  rw [List.drop_eq_getElem_cons (by simp; omega)]
                  simp
                have e2 : k - n0 = k + 1 - n0 := by omega
                rw [e1, e2] at hO
                have hf := hO.first_x
                clear hO e1 e2
                go_wp2_with fail
                refine hf.mono ?_
                clear hf
                rintro e w' ⟨rfl, hO⟩
                obtain ⟨blk, off, rfl, hcell⟩ := hO.a.get hka
                go_wp2
                go_roundw
                case rel => exact ⟨k + 1, by omega, by go_num, hO⟩
                case measure => simp [intOf]; omega
              · have hkb : k - n0 < zb.length := by omega
                have e1 : (za.take n0).drop k = [] := List.drop_of_length_le (by simp; omega)
                have e0 : (za.take n0).drop (k + 1) = [] := List.drop_of_length_le (by simp; omega)
                have e2 : (zb.take m0).drop (k - n0) = zb[k - n0] :: (zb.take m0).drop (k + 1 - n0) := by
                  rw [List.drop_eq_getElem_cons (by simp; omega), show k + 1 - n0 = k - n0 + 1 by omega]
                  simp
                rw [e1, e2] at hO
                have hf := hO.first_y
                clear hO e1 e2
                go_wp2_with fail
                refine hf.mono ?_
                clear hf
                rintro e w' ⟨rfl, hO⟩
                obtain ⟨blk, off, rfl, hcell⟩ := hO.b.get hkb
                have hsub : ((k - n0 : Nat) : Int) = (k : Int) - (n0 : Int) := by omega
                obtain ⟨j, hj⟩ : ∃ j, j = k - n0 := ⟨_, rfl⟩
                go_wp2
                go_roundw
                case rel => exact ⟨k + 1, by omega, by go_num, by rw [e0]; exact hO⟩
                case measure => simp [intOf]; omega
            · obtain rfl : k = n0 + m0 := by omega
              have e1 : (za.take n0).drop (n0 + m0) = [] := List.drop_of_length_le (by simp; omega)
              have e2 : (zb.take m0).drop (n0 + m0 - n0) = [] := List.drop_of_length_le (by simp; omega)
              rw [e1, e2] at hO
              clear e1 e2 hlt hk
              go_wp2
              refine gwp_seq hP (gwp_of_wp hP (fun _ _ h => h) (fun _ _ _ h => h) fun τ d => ?_)
              replace hO := hO.re τ d
              generalize re _ τ d = w at hO ⊢
              have hf := hO.first_no
              clear hO
              go_wp2_with fail
              refine hf.mono ?_
              rintro e w₄ ⟨rfl, hk⟩
              clear hf
              go_wp2
              refine gwp_seq hP (gwp_of_wp hP (fun _ _ h => h) (fun _ _ _ h => h) fun τ d => ?_)
              replace hk := hk.trans (rely_re τ d)
              generalize re _ τ d = w at hk ⊢
              go_wp2
              refine gwp_seq hP (gwp_of_wp hP (fun _ _ h => h) (fun _ _ _ h => h) fun τ d => ?_)
              replace hk := hk.trans (rely_re τ d)
              generalize re _ τ d = w at hk ⊢
              go_wp2_with (go_at_call 11; refine (take_nil _).mono ?_; rintro e w' ⟨rfl, rfl⟩)
              refine gwp_seq hP (gwp_region hP ?_)
              refine gwpOps_value (v := .int .i64 (-1)) (w₁ := w) hP rfl rfl (fun τ d => by simp [go_sem]) ?_
              walk_nrm
              refine gwpOps_value (v := .bool true) (w₁ := w) hP rfl rfl (fun τ d => by simp [go_sem]) ?_
              walk_nrm
              refine gwpOps_value (v := .bool true) (w₁ := w) hP rfl rfl (fun τ d => by simp [go_sem]) ?_
              walk_nrm
              refine gwpOps_value (v := .bool false) (w₁ := w) hP rfl rfl (fun τ d => by simp [go_sem]) ?_
              walk_nrm
              refine gwpOps_value (v := .bool true) (w₁ := w) hP rfl rfl (fun τ d => by simp [go_sem]) ?_
              walk_nrm
              refine gwpOps_value (v := .bool true) (w₁ := w) hP rfl rfl (fun τ d => by simp [go_sem]) ?_
              walk_nrm
              refine gwpOps_value (v := .bool true) (w₁ := w) hP rfl rfl (fun τ d => by simp [go_sem]) ?_
              walk_nrm
              refine gwpOps_value (v := .bool false) (w₁ := w) hP rfl rfl (fun τ d => by simp [go_sem]) ?_
              walk_nrm
              refine gwpOps_value (v := .bool true) (w₁ := w) hP rfl rfl (fun τ d => by simp [go_sem]) ?_
              walk_nrm
              refine gwpOps_value (v := .bool true) (w₁ := w) hP rfl rfl (fun τ d => by simp [go_sem]) ?_
              walk_nrm
              refine gwpOps_value (v := .bool true) (w₁ := w) hP rfl rfl (fun τ d => by simp [go_sem]) ?_
              walk_nrm
              refine gwpOps_value (v := .pointer none) (w₁ := w) hP rfl rfl (fun τ d => by simp [go_sem]) ?_
              walk_nrm
              refine gwpOps_call (f := 10) (args := #[.pointer none, .int .i64 1]) (R := fun v w' => v = .bool false ∧ KP W w') hP rfl rfl (fun τ e => ?_) (gcalls_of_calls hP fun τ d => (offer_nil _ (re w τ d)).mono fun e w' h => ?_) (fun v w₅ hG => ?_)
              · refine (run_call_body rfl Try.func10 (by decide) rfl).trans ?_
                simp [Act.eval]
              · obtain ⟨rfl, rfl⟩ := h
                exact ⟨rfl, hk.trans (rely_re τ d)⟩
              obtain ⟨rfl, hk⟩ := hG
              generalize w₅ = w at hk ⊢
              walk_nrm
              refine gwpOps_value (v := .bool true) (w₁ := w) hP rfl rfl (fun τ d => by simp [go_sem]) ?_
              walk_nrm
              refine gwpOps_value (v := .bool true) (w₁ := w) hP rfl rfl (fun τ d => by simp [go_sem]) ?_
              walk_nrm
              refine gwpOps_value (v := .bool true) (w₁ := w) hP rfl rfl (fun τ d => by simp [go_sem]) ?_
              walk_nrm
              refine gwpOps_value (v := .pointer none) (w₁ := w) hP rfl rfl (fun τ d => by simp [go_sem]) ?_
              walk_nrm
              refine gwpOps_call (f := 15) (args := #[.pointer none]) (R := fun v w' => v = .int .i64 0 ∧ KP W w') hP rfl rfl (fun τ e => ?_) (gcalls_of_calls hP fun τ d => (len_nil (re w τ d)).mono fun e w' h => ?_) (fun v w₅ hG => ?_)
              · refine (run_call_body rfl Try.func15 (by decide) rfl).trans ?_
                simp [Act.eval]
              · obtain ⟨rfl, rfl⟩ := h
                exact ⟨rfl, hk.trans (rely_re τ d)⟩
              obtain ⟨rfl, hk⟩ := hG
              generalize w₅ = w at hk ⊢
              walk_nrm
              refine gwpOps_value (v := .bool true) (w₁ := w) hP rfl rfl (fun τ d => by simp [go_sem]) ?_
              walk_nrm
              refine gwpOps_value (v := .bool true) (w₁ := w) hP rfl rfl (fun τ d => by simp [go_sem]) ?_
              walk_nrm
              refine gwpOps_value (v := .bool true) (w₁ := w) hP rfl rfl (fun τ d => by simp [go_sem]) ?_
              walk_nrm
              refine gwpOps_value (v := .pointer none) (w₁ := w) hP rfl rfl (fun τ d => by simp [go_sem]) ?_
              walk_nrm
              refine gwpOps_call (f := 13) (args := #[.pointer none, .int .i64 5]) (R := fun v w' => v = .slice none 0 0 ∧ KP W w') hP rfl rfl (fun τ e => ?_) (gcalls_of_calls hP fun τ d => (drain_nil 5 (by decide) (re w τ d)).mono fun e w' h => ?_) (fun v w₅ hG => ?_)
              · refine (run_call_body rfl Try.func13 (by decide) rfl).trans ?_
                simp [Act.eval]
              · obtain ⟨rfl, rfl⟩ := h
                exact ⟨rfl, hk.trans (rely_re τ d)⟩
              obtain ⟨rfl, hk⟩ := hG
              generalize w₅ = w at hk ⊢
              walk_nrm
              refine gwpOps_value (v := .int .i64 0) (w₁ := w) hP rfl rfl (fun τ d => by simp [go_sem]) ?_
              walk_nrm
              refine gwpOps_value (v := .bool true) (w₁ := w) hP rfl rfl (fun τ d => by simp [go_sem]) ?_
              walk_nrm
              refine gwpOps_value (v := .bool true) (w₁ := w) hP rfl rfl (fun τ d => by simp [go_sem]) ?_
              walk_nrm
              refine gwpOps_value (v := .bool true) (w₁ := w) hP rfl rfl (fun τ d => by simp [go_sem]) ?_
              walk_nrm
              refine gwpOps_call (f := 7) (args := #[]) (R := fun v w' => v = .bool true ∧ KP w w') hP rfl rfl (fun τ e => ?_) (awake7 w) (fun v w₅ hG => ?_)
              · refine (run_call_body rfl Try.func7 (by decide) rfl).trans ?_
                simp
              obtain ⟨rfl, hG⟩ := hG
              replace hk := kp_trans hk hG
              clear hG
              generalize w₅ = w at hk ⊢
              walk_nrm
              refine gwpOps_value (v := .bool true) (w₁ := w) hP rfl rfl (fun τ d => by simp [go_sem]) ?_
              walk_nrm
              refine gwpOps_value (v := .bool true) (w₁ := w) hP rfl rfl (fun τ d => by simp [go_sem]) ?_
              walk_nrm
              refine gwpOps_nil hP ?_
              simp only [Exit.then]
              exact gwp_ret hP ⟨rfl, .bool true, fun w => results_runT (t := 6) rfl _ _, rfl, hk⟩
end
end Go.Proofs.Ytjcplblnapcfcaa
