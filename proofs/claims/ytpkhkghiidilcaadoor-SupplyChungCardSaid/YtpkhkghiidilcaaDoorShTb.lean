/- The tables are what the program's functions become. -/
import Derived.Test.YtpkhkghiidilcaaDoorM3
import Derived.Test.YtpkhkghiidilcaaDoorH42
import Derived.Test.YtpkhkghiidilcaaDoorProg
set_option linter.all false
namespace Go.Proofs.YtpkhkghiidilcaaDoor.Sh
open Go
theorem c5 : compFunc Tryd.prog Tryd.f5 = some sf5 := by kernel_rfl
theorem c15 : compFunc Tryd.prog Tryd.f15 = some sf15 := by kernel_rfl
theorem c26 : compFunc Tryd.prog Tryd.f26 = some sf26 := by kernel_rfl
theorem c58 : compFunc Tryd.prog Tryd.f58 = some sf58 := by kernel_rfl
theorem c68 : compFunc Tryd.prog Tryd.f68 = some sf68 := by kernel_rfl
theorem c81 : compFunc Tryd.prog Tryd.f81 = some sf81 := by kernel_rfl
theorem c86 : compFunc Tryd.prog Tryd.f86 = some sf86 := by kernel_rfl
theorem c97 : compFunc Tryd.prog Tryd.f97 = some sf97 := by kernel_rfl
theorem c59 : compFunc Tryd.prog Tryd.f59 = some sf59 := by kernel_rfl
theorem c54 : compFunc Tryd.prog Tryd.f54 = some sf54 := by kernel_rfl
theorem c55 : compFunc Tryd.prog Tryd.f55 = some sf55 := by kernel_rfl
theorem c71 : compFunc Tryd.prog Tryd.f71 = some sf71 := by kernel_rfl
theorem c62 : compFunc Tryd.prog Tryd.f62 = some sf62 := by kernel_rfl
theorem c77 : compFunc Tryd.prog Tryd.f77 = some sf77 := by kernel_rfl
theorem c78 : compFunc Tryd.prog Tryd.f78 = some sf78 := by kernel_rfl
theorem c84 : compFunc Tryd.prog Tryd.f84 = some sf84 := by kernel_rfl
theorem c79 : compFunc Tryd.prog Tryd.f79 = some sf79 := by kernel_rfl
theorem c75 : compFunc Tryd.prog Tryd.f75 = some sf75 := by kernel_rfl
theorem c60 : compFunc Tryd.prog Tryd.f60 = some sf60 := by kernel_rfl
theorem c76 : compFunc Tryd.prog Tryd.f76 = some sf76 := by kernel_rfl
theorem c21 : compFunc Tryd.prog Tryd.f21 = some sf21 := by kernel_rfl
theorem c56 : compFunc Tryd.prog Tryd.f56 = some sf56 := by kernel_rfl
theorem c72 : compFunc Tryd.prog Tryd.f72 = some sf72 := by kernel_rfl
theorem c73 : compFunc Tryd.prog Tryd.f73 = some sf73 := by kernel_rfl
theorem c83 : compFunc Tryd.prog Tryd.f83 = some sf83 := by kernel_rfl
theorem c95 : compFunc Tryd.prog Tryd.f95 = some sf95 := by kernel_rfl
theorem c96 : compFunc Tryd.prog Tryd.f96 = some sf96 := by kernel_rfl
theorem c82 : compFunc Tryd.prog Tryd.f82 = some sf82 := by kernel_rfl
theorem c87 : compFunc Tryd.prog Tryd.f87 = some sf87 := by kernel_rfl
theorem c88 : compFunc Tryd.prog Tryd.f88 = some sf88 := by kernel_rfl
theorem c98 : compFunc Tryd.prog Tryd.f98 = some sf98 := by kernel_rfl
theorem c89 : compFunc Tryd.prog Tryd.f89 = some sf89 := by kernel_rfl
theorem c99 : compFunc Tryd.prog Tryd.f99 = some sf99 := by kernel_rfl
theorem c100 : compFunc Tryd.prog Tryd.f100 = some sf100 := by kernel_rfl
theorem c90 : compFunc Tryd.prog Tryd.f90 = some sf90 := by kernel_rfl
theorem c101 : compFunc Tryd.prog Tryd.f101 = some sf101 := by kernel_rfl
theorem c102 : compFunc Tryd.prog Tryd.f102 = some sf102 := by kernel_rfl
theorem c103 : compFunc Tryd.prog Tryd.f103 = some sf103 := by kernel_rfl
theorem c91 : compFunc Tryd.prog Tryd.f91 = some sf91 := by kernel_rfl
theorem c92 : compFunc Tryd.prog Tryd.f92 = some sf92 := by kernel_rfl
theorem c93 : compFunc Tryd.prog Tryd.f93 = some sf93 := by kernel_rfl
theorem c94 : compFunc Tryd.prog Tryd.f94 = some sf94 := by kernel_rfl
theorem c74 : compFunc Tryd.prog Tryd.f74 = some sf74 := by kernel_rfl
theorem c19 : compFunc Tryd.prog Tryd.f19 = some sf19 := by kernel_rfl
theorem c28 : compFunc Tryd.prog Tryd.f28 = some sf28 := by kernel_rfl
theorem c53 : compFunc Tryd.prog Tryd.f53 = some sf53 := by kernel_rfl
theorem c51 : compFunc Tryd.prog Tryd.f51 = some sf51 := by kernel_rfl
theorem c69 : compFunc Tryd.prog Tryd.f69 = some sf69 := by kernel_rfl
theorem c70 : compFunc Tryd.prog Tryd.f70 = some sf70 := by kernel_rfl
theorem c20 : compFunc Tryd.prog Tryd.f20 = some sf20 := by kernel_rfl
theorem c48 : compFunc Tryd.prog Tryd.f48 = some sf48 := by kernel_rfl
theorem c18 : compFunc Tryd.prog Tryd.f18 = some sf18 := by kernel_rfl
theorem c24 : compFunc Tryd.prog Tryd.f24 = some sf24 := by kernel_rfl
theorem c50 : compFunc Tryd.prog Tryd.f50 = some sf50 := by kernel_rfl
theorem tab : Tab Tryd.prog FT := by
  intro f sf h
  unfold FT at h
  split at h
  · cases h; exact ⟨_, Tryd.func5, c5⟩
  · cases h; exact ⟨_, Tryd.func15, c15⟩
  · cases h; exact ⟨_, Tryd.func26, c26⟩
  · cases h; exact ⟨_, Tryd.func58, c58⟩
  · cases h; exact ⟨_, Tryd.func68, c68⟩
  · cases h; exact ⟨_, Tryd.func81, c81⟩
  · cases h; exact ⟨_, Tryd.func86, c86⟩
  · cases h; exact ⟨_, Tryd.func97, c97⟩
  · cases h; exact ⟨_, Tryd.func59, c59⟩
  · cases h; exact ⟨_, Tryd.func54, c54⟩
  · cases h; exact ⟨_, Tryd.func55, c55⟩
  · cases h; exact ⟨_, Tryd.func71, c71⟩
  · cases h; exact ⟨_, Tryd.func62, c62⟩
  · cases h; exact ⟨_, Tryd.func77, c77⟩
  · cases h; exact ⟨_, Tryd.func78, c78⟩
  · cases h; exact ⟨_, Tryd.func84, c84⟩
  · cases h; exact ⟨_, Tryd.func79, c79⟩
  · cases h; exact ⟨_, Tryd.func75, c75⟩
  · cases h; exact ⟨_, Tryd.func60, c60⟩
  · cases h; exact ⟨_, Tryd.func76, c76⟩
  · cases h; exact ⟨_, Tryd.func21, c21⟩
  · cases h; exact ⟨_, Tryd.func56, c56⟩
  · cases h; exact ⟨_, Tryd.func72, c72⟩
  · cases h; exact ⟨_, Tryd.func73, c73⟩
  · cases h; exact ⟨_, Tryd.func83, c83⟩
  · cases h; exact ⟨_, Tryd.func95, c95⟩
  · cases h; exact ⟨_, Tryd.func96, c96⟩
  · cases h; exact ⟨_, Tryd.func82, c82⟩
  · cases h; exact ⟨_, Tryd.func87, c87⟩
  · cases h; exact ⟨_, Tryd.func88, c88⟩
  · cases h; exact ⟨_, Tryd.func98, c98⟩
  · cases h; exact ⟨_, Tryd.func89, c89⟩
  · cases h; exact ⟨_, Tryd.func99, c99⟩
  · cases h; exact ⟨_, Tryd.func100, c100⟩
  · cases h; exact ⟨_, Tryd.func90, c90⟩
  · cases h; exact ⟨_, Tryd.func101, c101⟩
  · cases h; exact ⟨_, Tryd.func102, c102⟩
  · cases h; exact ⟨_, Tryd.func103, c103⟩
  · cases h; exact ⟨_, Tryd.func91, c91⟩
  · cases h; exact ⟨_, Tryd.func92, c92⟩
  · cases h; exact ⟨_, Tryd.func93, c93⟩
  · cases h; exact ⟨_, Tryd.func94, c94⟩
  · cases h; exact ⟨_, Tryd.func74, c74⟩
  · cases h; exact ⟨_, Tryd.func19, c19⟩
  · cases h; exact ⟨_, Tryd.func28, c28⟩
  · cases h; exact ⟨_, Tryd.func53, c53⟩
  · cases h; exact ⟨_, Tryd.func51, c51⟩
  · cases h; exact ⟨_, Tryd.func69, c69⟩
  · cases h; exact ⟨_, Tryd.func70, c70⟩
  · cases h; exact ⟨_, Tryd.func20, c20⟩
  · cases h; exact ⟨_, Tryd.func48, c48⟩
  · cases h; exact ⟨_, Tryd.func18, c18⟩
  · cases h; exact ⟨_, Tryd.func24, c24⟩
  · cases h; exact ⟨_, Tryd.func50, c50⟩
  · cases h
theorem mixed : Tryd.prog.follows .mixedOrders = true := by kernel_rfl
theorem snd (n : Nat) : Sound Tryd.prog (run FT n) n := sound mixed tab n
end Go.Proofs.YtpkhkghiidilcaaDoor.Sh

