/- The cells of one element of a slice of structs that hold one slice; without a program; no condition. -/
import Derived.Test.YtankodjcccnjlaaNestData
namespace Go.Rd
open Go.Sort Go.RowKit
theorem Rec.Rd.addr {w : World} {a : Option Addr} {n cap : Nat} {l : List Rec} (h : Rec.Rd w (.slice a n cap) l) (h0 : 0 < l.length) : ∃ b off, a = some ⟨b, off, none⟩ := by
  obtain ⟨pl, rfl, h1, h2⟩ := h
  obtain ⟨b, off, ha, _⟩ := Reads.elems Rec.enc_len h1 (by simpa using h0)
  exact ⟨b, off, ha⟩
theorem Rec.Rd.cells {w : World} {b off n cap : Nat} {l : List Rec} (h : Rec.Rd w (.slice (some ⟨b, off, none⟩) n cap) l) {k : Nat} {r : Rec} (hx : l[k]? = some r) :
    ∃ ca cc, w.cell? ⟨b, off + k * 4, none⟩ = some (.int .i64 r.id) ∧ w.cell? ⟨b, off + k * 4 + 1, none⟩ = some (.int .i64 r.se) ∧ w.cell? ⟨b, off + k * 4 + 2, none⟩ = some (.int .i64 r.ma) ∧ w.cell? ⟨b, off + k * 4 + 3, none⟩ = some (.slice ca r.evs.length cc) ∧ Rec.At w (r, .slice ca r.evs.length cc) := by
  obtain ⟨pl, rfl, h1, h2⟩ := h
  rw [List.getElem?_map] at hx
  cases hp : pl[k]? with
  | none => rw [hp] at hx; cases hx
  | some p =>
    rw [hp] at hx
    simp only [Option.map_some, Option.some.injEq] at hx
    subst hx
    have hk := (List.getElem?_eq_some_iff.1 hp).1
    obtain ⟨b', off', ha, hc⟩ := Reads.elems Rec.enc_len h1 (by omega)
    simp only [Option.some.injEq, Addr.mk.injEq, and_true] at ha
    obtain ⟨rfl, rfl⟩ := ha
    have hat := h2 p (List.mem_of_getElem? hp)
    obtain ⟨ca, cc, hs⟩ := Reads.shape hat
    obtain ⟨p1, p2⟩ := p
    simp only at hs
    subst hs
    exact ⟨ca, cc, hc k _ hp 0 _ rfl, hc k _ hp 1 _ rfl, hc k _ hp 2 _ rfl, hc k _ hp 3 _ rfl, hat⟩
theorem Hld.Rd.addr {w : World} {a : Option Addr} {n cap : Nat} {l : List Hld} (h : Hld.Rd w (.slice a n cap) l) (h0 : 0 < l.length) : ∃ b off, a = some ⟨b, off, none⟩ := by
  obtain ⟨pl, rfl, h1, h2⟩ := h
  obtain ⟨b, off, ha, _⟩ := Reads.elems Hld.enc_len h1 (by simpa using h0)
  exact ⟨b, off, ha⟩
theorem Hld.Rd.cells {w : World} {b off n cap : Nat} {l : List Hld} (h : Hld.Rd w (.slice (some ⟨b, off, none⟩) n cap) l) {k : Nat} {r : Hld} (hx : l[k]? = some r) :
    ∃ ca cc, w.cell? ⟨b, off + k * 6, none⟩ = some (.int .i64 r.id) ∧ w.cell? ⟨b, off + k * 6 + 1, none⟩ = some (.int .i64 r.fr) ∧ w.cell? ⟨b, off + k * 6 + 2, none⟩ = some (.int .i64 r.un) ∧ w.cell? ⟨b, off + k * 6 + 3, none⟩ = some (.slice ca r.ss.length cc) ∧ w.cell? ⟨b, off + k * 6 + 4, none⟩ = some (.int .i64 r.fi) ∧ w.cell? ⟨b, off + k * 6 + 5, none⟩ = some (.int .i64 r.la) ∧ Hld.At w (r, .slice ca r.ss.length cc) := by
  obtain ⟨pl, rfl, h1, h2⟩ := h
  rw [List.getElem?_map] at hx
  cases hp : pl[k]? with
  | none => rw [hp] at hx; cases hx
  | some p =>
    rw [hp] at hx
    simp only [Option.map_some, Option.some.injEq] at hx
    subst hx
    have hk := (List.getElem?_eq_some_iff.1 hp).1
    obtain ⟨b', off', ha, hc⟩ := Reads.elems Hld.enc_len h1 (by omega)
    simp only [Option.some.injEq, Addr.mk.injEq, and_true] at ha
    obtain ⟨rfl, rfl⟩ := ha
    have hat := h2 p (List.mem_of_getElem? hp)
    obtain ⟨ca, cc, hs⟩ := Reads.shape hat
    obtain ⟨p1, p2⟩ := p
    simp only at hs
    subst hs
    exact ⟨ca, cc, hc k _ hp 0 _ rfl, hc k _ hp 1 _ rfl, hc k _ hp 2 _ rfl, hc k _ hp 3 _ rfl, hc k _ hp 4 _ rfl, hc k _ hp 5 _ rfl, hat⟩
theorem Ver.Rd.addr {w : World} {a : Option Addr} {n cap : Nat} {l : List Ver} (h : Ver.Rd w (.slice a n cap) l) (h0 : 0 < l.length) : ∃ b off, a = some ⟨b, off, none⟩ := by
  obtain ⟨pl, rfl, h1, h2⟩ := h
  obtain ⟨b, off, ha, _⟩ := Reads.elems Ver.enc_len h1 (by simpa using h0)
  exact ⟨b, off, ha⟩
theorem Ver.Rd.cells {w : World} {b off n cap : Nat} {l : List Ver} (h : Ver.Rd w (.slice (some ⟨b, off, none⟩) n cap) l) {k : Nat} {r : Ver} (hx : l[k]? = some r) :
    ∃ ca cc, w.cell? ⟨b, off + k * 2, none⟩ = some (.int .i64 r.fr) ∧ w.cell? ⟨b, off + k * 2 + 1, none⟩ = some (.slice ca r.rs.length cc) ∧ Ver.At w (r, .slice ca r.rs.length cc) := by
  obtain ⟨pl, rfl, h1, h2⟩ := h
  rw [List.getElem?_map] at hx
  cases hp : pl[k]? with
  | none => rw [hp] at hx; cases hx
  | some p =>
    rw [hp] at hx
    simp only [Option.map_some, Option.some.injEq] at hx
    subst hx
    have hk := (List.getElem?_eq_some_iff.1 hp).1
    obtain ⟨b', off', ha, hc⟩ := Reads.elems Ver.enc_len h1 (by omega)
    simp only [Option.some.injEq, Addr.mk.injEq, and_true] at ha
    obtain ⟨rfl, rfl⟩ := ha
    have hat := h2 p (List.mem_of_getElem? hp)
    obtain ⟨ca, cc, hs⟩ := Reads.shape hat
    obtain ⟨p1, p2⟩ := p
    simp only at hs
    subst hs
    exact ⟨ca, cc, hc k _ hp 0 _ rfl, hc k _ hp 1 _ rfl, hat⟩
end Go.Rd
