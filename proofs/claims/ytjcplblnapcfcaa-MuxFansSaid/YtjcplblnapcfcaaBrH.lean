/-
  A COMMUNICATION THAT NOBODY WAITS FOR: it comes to the same in every company, and hangs on the tape by its own draws alone.
-/
import Derived.Test.YtjcplblnapcfcaaBrG
import Derived.Conc.CrowdComm
set_option linter.unusedSimpArgs false
namespace Go.Gat
open Go.Conc

/-- Nobody of 'gs' waits. -/
def Free (gs : Array Goroutine) : Prop := ∀ (j : Nat) (g : Goroutine), gs[j]? = some g → g.status ≠ .blocked

theorem partners_free {gs : Array Goroutine} (h : Free gs) (r : Nat) (b : Bool) : partners gs r b = [] :=
  partners_nil fun j g hj => by
    have := h j g hj
    unfold offersAt
    split
    · rename_i h1 _
      exact absurd h1 this
    · rfl
theorem ways_free {gs : Array Goroutine} (h : Free gs) (w : World) (c : CommCase) : ways w gs c = ways w #[] c := by
  unfold ways
  simp only [partners_free h, partners_free (gs := #[]) (fun j g hj => by simp at hj)]

theorem ways_alone (w : World) (c : CommCase) : ∀ y ∈ ways w #[] c, ∀ h k, y ≠ .partner h k := by
  intro y hy h k e
  subst e
  have hp : ∀ r b, partners #[] r b = [] := fun r b => partners_free (gs := #[]) (fun j g hj => by simp at hj) r b
  unfold ways at hy
  simp only [hp] at hy
  split at hy
  · split at hy
    · split at hy
      · simp at hy
      · split at hy <;> simp at hy
    · split at hy
      · simp at hy
      · split at hy <;> simp at hy
    · simp at hy
  · simp at hy

/-- What a communication lists. -/
def commAct : MemAct → Prop
  | .send .. | .sendDone .. | .recv .. | .recvDone .. | .recvClosed _ => True
  | _ => False

section
variable {P : Program}
theorem comm_free {r1 : Rest} {x g g' : Goroutine} {cs : Array CommCase} {b : Bool} {s : CommShape} {w w' : World} {ops : Array MemOp}
    (hx : x.status ≠ .blocked) (h : communicate P r1 #[x] 0 g cs b s w = (.next { world := w', gs := #[g'], rest := r1 }, ops)) (hrun : g'.status = .running) (hok : GorOK g) :
    Draws w w' ∧ GorOK g' ∧ (∀ op ∈ ops, op.g = 0 ∧ commAct op.act) ∧
    ∀ τ d, Agree w w' τ d → ∀ gs r2, Free gs → communicate P r2 gs 0 g cs b s (re w τ d) = (.next { world := sh w w' τ d, gs := gs.setIfInBounds 0 g', rest := r2 }, ops) := by
  have hfx : Free #[x] := fun j g hj => by
    cases j with
    | zero => simp at hj; exact hj ▸ hx
    | succ j => simp at hj
  have hre : ∀ τ d c, ways (re w τ d) #[] c = ways w #[] c := fun _ _ _ => rfl
  have hset : ∀ y : Goroutine, (#[x] : Array Goroutine).setIfInBounds 0 y = #[y] := fun _ => rfl
  have hfin : ∀ (k : Int) v o, GorOK (g.finishComm P cs s k v o) := fun k v o => ⟨hok.1.finish _, hok.2⟩
  unfold communicate at h ⊢
  dsimp only at h ⊢
  simp only [ways_free hfx, partners_free hfx, hset] at h
  split at h
  · simp at h
  rename_i hill
  split at h
  · rename_i hready
    split at h
    · split at h
      · simp only [Prod.mk.injEq, Stepped.next.injEq, Machine.mk.injEq, Array.mk.injEq, List.cons.injEq, and_true] at h
        obtain ⟨⟨_, rfl⟩, _⟩ := h
        cases hrun
      · simp at h
    · rename_i hb
      simp only [Prod.mk.injEq, Stepped.next.injEq, Machine.mk.injEq, Array.mk.injEq, List.cons.injEq, and_true] at h
      obtain ⟨⟨rfl, rfl⟩, rfl⟩ := h
      refine ⟨.refl w, hfin _ _ _, by simp, fun τ d ha gs r2 hgs => ?_⟩
      simp only [ways_free hgs, partners_free hgs, re_heap, hre]
      rw [if_neg hill, if_pos hready, if_neg hb, sh_self]
  rename_i hready
  generalize hp : (do
      let a ← choose (.select (List.filter (fun x : Nat × CommCase × List Way => !x.2.2.isEmpty) (List.map (fun x : CommCase × Nat => (x.2, x.1, ways w #[] x.1)) cs.zipIdx.toList)).length)
      let b ← choose (.extern "which waiting goroutine is the partner" ((List.filter (fun x : Nat × CommCase × List Way => !x.2.2.isEmpty) (List.map (fun x : CommCase × Nat => (x.2, x.1, ways w #[] x.1)) cs.zipIdx.toList)).getD a (0, default, [])).2.2.length)
      pure (((List.filter (fun x : Nat × CommCase × List Way => !x.2.2.isEmpty) (List.map (fun x : CommCase × Nat => (x.2, x.1, ways w #[] x.1)) cs.zipIdx.toList)).getD a (0, default, [])).1, ((List.filter (fun x : Nat × CommCase × List Way => !x.2.2.isEmpty) (List.map (fun x : CommCase × Nat => (x.2, x.1, ways w #[] x.1)) cs.zipIdx.toList)).getD a (0, default, [])).2.1, ((List.filter (fun x : Nat × CommCase × List Way => !x.2.2.isEmpty) (List.map (fun x : CommCase × Nat => (x.2, x.1, ways w #[] x.1)) cs.zipIdx.toList)).getD a (0, default, [])).2.2.getD b .closed) : Sem (Nat × CommCase × Way)) = pick at h ⊢
  have hleaf : pick.calm fun y => ∀ h k, y.2.2 ≠ .partner h k := by
    subst hp
    intro a b h k
    dsimp only
    generalize hR : List.filter (fun x : Nat × CommCase × List Way => !x.2.2.isEmpty) (List.map (fun x : CommCase × Nat => (x.2, x.1, ways w #[] x.1)) cs.zipIdx.toList) = R
    have hmem : ∀ y ∈ (R.getD a (0, default, [])).2.2, ∀ h k, y ≠ .partner h k := by
      intro y hy
      rw [List.getD_eq_getElem?_getD] at hy
      cases hz : R[a]? with
      | none => rw [hz] at hy; simp at hy
      | some z =>
        rw [hz] at hy
        have hm := List.mem_of_getElem? hz
        rw [← hR, List.mem_filter, List.mem_map] at hm
        obtain ⟨⟨q, _, rfl⟩, _⟩ := hm
        exact ways_alone w q.1 y hy
    rw [List.getD_eq_getElem?_getD]
    cases hz : (R.getD a (0, default, [])).2.2[b]? with
    | none => simp
    | some z => exact hmem z (List.mem_of_getElem? hz) h k
  obtain ⟨a1, a2, a3⟩ := runT_re P pick (calm_firm P _ hleaf) w #[]
  have a4 := (calm_events P pick hleaf w #[]).2
  have a5 := fun τ d => Sem.runT_fst P pick (re w τ d) #[]
  rw [← Sem.runT_fst P pick w #[]] at h
  generalize hR : pick.runT P w #[] = R at h a1 a2 a3 a4
  obtain ⟨R, es⟩ := R
  cases R with
  | halt hh w2 => simp at h
  | ok y w2 =>
  obtain ⟨k, c, way⟩ := y
  have hpick : ∀ τ d, Agree w w2 τ d → pick.run P (re w τ d) = .ok (k, c, way) (sh w w2 τ d) := fun τ d ha => by
    rw [← a5, a3 rfl τ d ha]; rfl
  have hd : Draws w w2 := ⟨a1, a2⟩
  have hnp := a4 _ _ rfl
  dsimp only at h hnp
  cases way with
  | partner a b => exact absurd rfl (hnp a b)
  | closed =>
    dsimp only at h
    simp only [Prod.mk.injEq, Stepped.next.injEq, Machine.mk.injEq, Array.mk.injEq, List.cons.injEq, and_true] at h
    obtain ⟨⟨rfl, rfl⟩, rfl⟩ := h
    refine ⟨hd, hfin _ _ _, by simp [commAct], fun τ d ha gs r2 hgs => ?_⟩
    simp only [ways_free hgs, partners_free hgs, re_heap, hre]
    rw [if_neg hill, if_neg hready, hp, hpick τ d ha]
  | sendClosed =>
    dsimp only at h
    obtain ⟨b1, b2, b3⟩ := runT_re P (runtimePanic (.plain "send on closed channel") : Sem Unit) (fine_panic (P := P) (L := fun _ => True) _).firm w2 #[]
    have b5 := fun τ d => Sem.runT_fst P (runtimePanic (.plain "send on closed channel") : Sem Unit) (re w2 τ d) #[]
    rw [← Sem.runT_fst P (runtimePanic (.plain "send on closed channel") : Sem Unit) w2 #[]] at h
    generalize (runtimePanic (.plain "send on closed channel") : Sem Unit).runT P w2 #[] = R at h b1 b2 b3
    obtain ⟨R, es2⟩ := R
    cases R with
    | ok a w3 => simp at h
    | halt q w3 =>
      cases q with
      | panic v =>
        simp only [Prod.mk.injEq, Stepped.next.injEq, Machine.mk.injEq, Array.mk.injEq, List.cons.injEq, and_true] at h
        obtain ⟨⟨rfl, rfl⟩, rfl⟩ := h
        have hd2 : Draws w2 w3 := ⟨b1, b2⟩
        refine ⟨hd.trans hd2, ⟨hok.1.raise _, hok.2⟩, by simp, fun τ d ha gs r2 hgs => ?_⟩
        simp only [ways_free hgs, partners_free hgs, re_heap, hre]
        rw [if_neg hill, if_neg hready, hp, hpick τ d (ha.left hd2)]
        have b6 : (runtimePanic (.plain "send on closed channel") : Sem Unit).run P (sh w w2 τ d) = .halt (.panic v) (sh w w3 τ d) := by
          show (runtimePanic (.plain "send on closed channel") : Sem Unit).run P (re w2 τ (d + (w2.drawn - w.drawn))) = _
          rw [← b5, b3 rfl τ _ (ha.right hd), ← sh_sh hd hd2]
          rfl
        simp only [b6]
      | _ => simp at h
  | buffer =>
    split at h
    · rename_i heq; cases heq
    · rename_i heq; cases heq
    · rename_i cap buf closed sent rcvd tm v h1 h2 h3
      simp only [Prod.mk.injEq, Stepped.next.injEq, Machine.mk.injEq, Array.mk.injEq, List.cons.injEq, and_true] at h
      obtain ⟨⟨rfl, rfl⟩, rfl⟩ := h
      refine ⟨hd, hfin _ _ _, by simp [commAct], fun τ d ha gs r2 hgs => ?_⟩
      simp only [ways_free hgs, partners_free hgs, re_heap, hre]
      rw [if_neg hill, if_neg hready, hp, hpick τ d ha]
      have e : (sh w w2 τ d).heap = w2.heap := rfl
      simp only [e, h1, h3]
      rfl
    · rename_i cap buf closed sent rcvd tm h1 h2 h3
      simp only [Prod.mk.injEq, Stepped.next.injEq, Machine.mk.injEq, Array.mk.injEq, List.cons.injEq, and_true] at h
      obtain ⟨⟨rfl, rfl⟩, rfl⟩ := h
      refine ⟨hd, hfin _ _ _, by simp [commAct], fun τ d ha gs r2 hgs => ?_⟩
      simp only [ways_free hgs, partners_free hgs, re_heap, hre]
      rw [if_neg hill, if_neg hready, hp, hpick τ d ha]
      have e : (sh w w2 τ d).heap = w2.heap := rfl
      simp only [e, h1, h3]
      rfl
    · rename_i heq _; cases heq
    · rename_i heq _; cases heq
    · simp at h
end
end Go.Gat
