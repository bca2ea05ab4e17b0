import Derived.Test.YtdpaimmheoconaaCodeA
import Derived.Test.YtdpaimmheoconaaG2

