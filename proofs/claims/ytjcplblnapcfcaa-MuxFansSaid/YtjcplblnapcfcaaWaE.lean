/-
  APPEND OF ONE VALUE OF THREE CELLS, BY A GOROUTINE IN COMPANY, onto nil or onto a block of its own.
-/
import Derived.Test.YtjcplblnapcfcaaWaB
import Derived.Conc.AppendWalk
import Derived.OwnWalk
set_option linter.unusedSimpArgs false
namespace Go.Gat
open Go.Conc

/-- Plain, or a mark that nobody minds. -/
def Sy (e : Event) : Prop := e.sync = false ∨ ∃ m, e = ⟨.mark m, false, true⟩ ∧ Neutral m

section
variable {P : Program}
theorem sy_load (w : World) (a : Addr) (es : Array Event) (h : ∀ e ∈ es, Sy e) : ∀ e ∈ (load a).events P w es, Sy e := by
  intro e he
  rw [events_load] at he
  split at he
  · rcases Array.mem_push.1 he with he | rfl
    · exact h e he
    · exact .inl rfl
  · split at he
    · rcases Array.mem_append.1 he with he | he
      · exact h e he
      · obtain ⟨x, _, rfl⟩ := Array.mem_map.1 he
        exact .inl rfl
    · exact h e he
theorem sy_loads (a : Addr) : ∀ (n i : Nat) (acc : Array Value) (w : World) (es : Array Event), (∀ e ∈ es, Sy e) → ∀ e ∈ (loadCellsFrom a i n acc).events P w es, Sy e
  | 0, _, _, _, _ => fun h e he => h e (by simpa [loadCellsFrom] using he)
  | n + 1, i, acc, w, es => fun h e he => by
    simp only [loadCellsFrom, Sem.events_bind] at he
    cases hr : (load (a.add i)).run P w with
    | halt x w' => rw [hr] at he; exact sy_load w _ es h e he
    | ok v w' =>
      rw [hr] at he
      exact sy_loads a n (i + 1) _ w' _ (sy_load w _ es h) e he
theorem sy_first (size n : Nat) (v : Value) (w : World) (es : Array Event) (h : ∀ e ∈ es, Sy e) : ∀ e ∈ (Builtin.firstCells size n v).events P w es, Sy e := by
  intro e he
  unfold Builtin.firstCells at he
  split at he
  · exact sy_loads _ _ _ _ w es h e he
  · exact h e he
  · exact h e he
  · exact h e he
theorem sy_stores (a : Addr) : ∀ (vs : List Value) (i : Nat) (w : World) (es : Array Event), (∀ v ∈ vs, v.oneCell' = true) → (∀ e ∈ es, Sy e) → ∀ e ∈ (storeCells a vs i).events P w es, Sy e
  | [], _, _, _, _ => fun h e he => h e (by simpa [storeCells] using he)
  | v :: rest, i, w, es, h1 => fun h e he => by
    have hs : ∀ e ∈ (store (a.add i) v).events P w es, Sy e := by
      intro e he
      rw [events_store P w es _ v _ (h1 v (by simp))] at he
      split at he
      · split at he
        · exact h e he
        · rcases Array.mem_push.1 he with he | rfl
          · exact h e he
          · exact .inl rfl
      · split at he
        · rcases Array.mem_append.1 he with he | he
          · exact h e he
          · obtain ⟨x, _, rfl⟩ := Array.mem_map.1 he
            exact .inl rfl
        · exact h e he
    simp only [storeCells, Sem.events_bind] at he
    cases hr : (store (a.add i) v).run P w with
    | halt x w' => rw [hr] at he; exact hs e he
    | ok u w' =>
      rw [hr] at he
      exact sy_stores a rest (i + 1) w' _ (fun v hv => h1 v (by simp [hv])) hs e he
theorem sy_room (b : Nat) (w : World) (es : Array Event) (h : ∀ e ∈ es, Sy e) : ∀ e ∈ (askRoom b).events P w es, Sy e := fun e he =>
  (events_askRoom b w es e he).elim (h e) .inr

theorem sy_append (w : World) (base : Nat) (t ty e : TypeId) (i : TypeInfo) (z : Value) (size bytes : Nat) (ht : P.underlying t = some (.slice e)) (hi : P.info? e = some i) (hz : i.zero = some z)
    (hsize : i.size = size) (hby : i.bytes = bytes) (v : Value) (n : Nat) (xs : List Value) (hown : w.ownsRow base e size v n xs)
    (a : Addr) (m c : Nat) (news : List Value) (hl : news.length = m * size) (hnews : ∀ j u, news[j]? = some u → w.cell? (a.add j) = some u) (h1 : ∀ u ∈ news, u.oneCell' = true)
    (h63 : n + m ≤ maxLen) (hbytes : (n + m) * bytes ≤ 140737488355328) (hm : 0 < m) :
    ∀ ev ∈ (Builtin.append_ #[t, t] ty #[v, .slice (some a) m c]).events P w #[], Sy ev := by
  subst hsize
  subst hby
  have hsmall : n + m ≤ 9223372036854775807 := by simp only [maxLen] at h63; omega
  have none0 : ∀ e ∈ (#[] : Array Event), Sy e := by intro e he; simp at he
  have hm0 : m ≠ 0 := by omega
  intro ev hev
  rcases hown.2 with ⟨rfl, rfl⟩ | ⟨g, cap, cur, rfl, hbg, hg, hnc, hcm, hcs, htake⟩
  · have h63' : ¬ (9223372036854775807 < (m : Int)) := by omega
    have h48' : ¬ (281474976710656 < Builtin.nextslicecap m 0 * i.bytes) := by rw [nextslicecap_zero (by omega)]; simp only [Nat.zero_add] at hbytes; omega
    have hf := run_firstCells_some (P := P) w.drew i.size m a m c news hl (by simpa using hnews)
    simp [Builtin.append_, run_underlying ht, sizeOf, typeInfo, zeroValue, hi, hz, Builtin.lenOf, hm0, h63', h48', Question.forced, run_firstCells_none, hf, newRow] at hev
    exact sy_first _ _ _ _ _ (sy_first _ _ _ _ _ (sy_room _ _ _ none0)) ev hev
  · by_cases hroom : n + m ≤ cap
    · have hf := run_firstCells_some (P := P) w i.size m a m c news hl hnews
      simp [Builtin.append_, run_underlying ht, sizeOf, typeInfo, hi, Builtin.lenOf, hroom, hf, Addr.add_lit] at hev
      exact sy_stores _ _ _ _ _ h1 (sy_first _ _ _ _ _ none0) ev hev
    · have holds : ∀ j u, xs[j]? = some u → w.cell? ((⟨g, 0, none⟩ : Addr).add j) = some u := hown.cells (g := g) rfl
      have hn : ¬ (n + m ≤ cap) := hroom
      have h63' : ¬ (9223372036854775807 < ((n : Int) + (m : Int))) := by omega
      have h48' : ¬ (281474976710656 < Builtin.nextslicecap (n + m) cap * i.bytes) := by have := growslice_fits (need := n + m) (old := cap) (bytes := i.bytes) (by omega) hbytes; omega
      have hf := run_firstCells_some (P := P) w.drew i.size m a m c news hl (by simpa using hnews)
      have hfo := run_firstCells_some (P := P) w.drew i.size n ⟨g, 0, none⟩ n cap xs hown.1 (by simpa using holds)
      simp [Builtin.append_, run_underlying ht, sizeOf, typeInfo, zeroValue, hi, hz, Builtin.lenOf, hn, h63', h48', Question.forced, hf, hfo, newRow] at hev
      exact sy_first _ _ _ _ _ (sy_first _ _ _ _ _ (sy_room _ _ _ none0)) ev hev

theorem World.ownsRow.base {w : World} {base base' : Nat} {e : TypeId} {size : Nat} {v : Value} {n : Nat} {xs : List Value} (h : w.ownsRow base e size v n xs) (hb : base' ≤ base) : w.ownsRow base' e size v n xs :=
  ⟨h.1, h.2.imp id fun ⟨g, cap, cur, h1, h2, h3⟩ => ⟨g, cap, cur, h1, Nat.le_trans hb h2, h3⟩⟩

/-- APPEND, of one value of three cells that lies in the block 'nb' of its own. -/
theorem append_one {w : World} {B : Nat} {own : Own} {t ty e : TypeId} {zz : Value} {bytes : Nat} (ht : P.underlying t = some (.slice e)) (hinfo : (P.info? e).map (fun i => (i.zero, i.size, i.bytes)) = some (some zz, 3, bytes)) (hzz : zz.cells.size = 3)
    {v : Value} {n : Nat} {xs : List Value} (hown : w.ownsRow B e 3 v n xs) (hv : ∀ k, v.ownBlock = some k → own k) {nb : Nat} {x y z : Value} (hnb : w.heap[nb]? = some (.cells #[x, y, z] e (0, 0))) (hnb' : own nb)
    (hx : x.oneCell' = true) (hy : y.oneCell' = true) (hz : z.oneCell' = true) (h63 : n + 1 ≤ maxLen) (hbytes : (n + 1) * bytes ≤ 140737488355328) (hB : B ≤ w.heap.size) :
    ∃ v' w' own', (Builtin.append_ #[t, t] ty #[v, .slice (some ⟨nb, 0, none⟩) 1 1]).run P w = .ok v' w' ∧ w'.ownsRow B e 3 v' (n + 1) (xs ++ [x, y, z]) ∧ (∀ k, v'.ownBlock = some k → own' k) ∧
      Guar B own own' w w' ((Builtin.append_ #[t, t] ty #[v, .slice (some ⟨nb, 0, none⟩) 1 1]).events P w #[]) := by
  obtain ⟨i, hi, hz0, hz1, hz2⟩ := info_parts hinfo
  have a1 : ∀ j, (⟨nb, 0, none⟩ : Addr).add j = ⟨nb, j, none⟩ := fun j => by unfold Addr.add; split <;> simp_all
  have hnews : ∀ (w : World), w.heap[nb]? = some (.cells #[x, y, z] e (0, 0)) → ∀ j u, [x, y, z][j]? = some u → w.cell? ((⟨nb, 0, none⟩ : Addr).add j) = some u := fun w hw j u hu => by
    rw [a1]
    simp only [World.cell?, hw]
    simpa using hu
  have h1 : ∀ u ∈ [x, y, z], u.oneCell' = true := by simp [hx, hy, hz]
  obtain ⟨v', w', hr, h2, h3, h4⟩ := run_append_own (P := P) w B t ty e i zz 3 bytes ht hi hz0 hz1 hz2 hzz (by decide) v n xs hown ⟨nb, 0, none⟩ 1 1 [x, y, z] rfl (hnews w hnb) h1 h63 hbytes hB
  have hblk : ∀ k, v'.ownBlock = some k → v.ownBlock = some k ∨ w.heap.size ≤ k := by
    intro k hk
    rcases hown.2 with ⟨rfl, rfl⟩ | ⟨g, cap, cur, rfl, hbg, hg, hnc, hcm, hcs, htake⟩
    · have hxs : xs = [] := List.eq_nil_of_length_eq_zero (by simpa using hown.1)
      subst hxs
      obtain ⟨v2, w2, hr2, g2, _, _⟩ := run_append_own (P := P) w w.heap.size t ty e i zz 3 bytes ht hi hz0 hz1 hz2 hzz (by decide) _ 0 [] (World.ownsRow_nil w w.heap.size e 3) ⟨nb, 0, none⟩ 1 1 [x, y, z] rfl (hnews w hnb) h1 h63 hbytes (Nat.le_refl _)
      rw [hr] at hr2
      simp only [Result.ok.injEq] at hr2
      obtain ⟨rfl, rfl⟩ := hr2
      exact .inr (g2.lt k hk).1
    · by_cases hroom : n + 1 ≤ cap
      · have hfit : n * i.size + [x, y, z].length ≤ cur.size := by rw [hz1, hcs]; simp; omega
        have hr2 := run_append_room (P := P) w t ty e i ht hi g n cap cur hg ⟨nb, 0, none⟩ 1 1 [x, y, z] (by rw [hz1]; rfl) (hnews w hnb) h1 hroom hfit
        rw [hr] at hr2
        simp only [Result.ok.injEq] at hr2
        obtain ⟨rfl, _⟩ := hr2
        exact .inl hk
      · have holds : ∀ j u, xs[j]? = some u → w.cell? ((⟨g, 0, none⟩ : Addr).add j) = some u := hown.cells (g := g) rfl
        have hr2 := run_append_grow (P := P) w t ty e i zz ht hi hz0 ⟨g, 0, none⟩ n cap xs (by rw [hz1]; exact hown.1) holds ⟨nb, 0, none⟩ 1 1 [x, y, z] (by rw [hz1]; rfl) (hnews w hnb) (by omega) (by simp only [maxLen] at h63; omega) (by rw [hz2]; exact growslice_fits (by omega) hbytes)
        rw [hr] at hr2
        simp only [Result.ok.injEq] at hr2
        obtain ⟨rfl, _⟩ := hr2
        simp only [Value.ownBlock, Option.some.injEq] at hk
        exact .inr (by omega)
  have hown' : ∀ k, v'.ownBlock = some k → own k ∨ (w.heap.size ≤ k ∧ k < w'.heap.size) := fun k hk => (hblk k hk).imp (hv k) fun h => ⟨h, (h2.lt k hk).2⟩
  refine ⟨v', w', fun b => own b ∨ (w.heap.size ≤ b ∧ b < w'.heap.size), hr, h2, hown', h3.size, fun _ h => .inl h, fun b hb => hb, fun b hb hn => h3.block b hb fun e => hn (hv b e.symm), fun ev hev => ?_, h3.os, h3.output⟩
  have s1 := sy_append (P := P) w B t ty e i zz 3 bytes ht hi hz0 hz1 hz2 v n xs hown ⟨nb, 0, none⟩ 1 1 [x, y, z] rfl (hnews w hnb) h1 h63 hbytes (by decide) ev hev
  have s2 := events_append_where (P := P) w B t ty e i zz 3 bytes ht hi hz0 hz1 hz2 v n xs hown ⟨nb, 0, none⟩ 1 1 [x, y, z] rfl (hnews w hnb) h1 h63 hbytes ev hev
  rcases s2 with ⟨ad, e1, e2⟩ | ⟨mk, rfl, e2⟩
  · rcases s1 with s1 | ⟨mk, rfl, _⟩
    · rcases e2 with ⟨e3, e4⟩ | e3
      · exact evOK_own (g := nb) (.inl hnb') ⟨s1, ad, e1, e4⟩
      · exact evOK_own (g := ad.block) (.inl (hv _ e3.symm)) ⟨s1, ad, e1, rfl⟩
    · cases e1
  · exact evOK_mark e2
end
end Go.Gat
